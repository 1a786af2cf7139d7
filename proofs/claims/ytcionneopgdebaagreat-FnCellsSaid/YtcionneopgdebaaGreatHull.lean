/-
  Some texts of this proof in one: Hull Poly PySort. Each part tells what it proves. By an AI agent.
-/
import Derived.Test.YtcionneopgdebaaGreatPtG
import Derived.Test.YtcionneopgdebaaGreatHalf

/-
  The program's hull of points. By an AI agent.
-/
namespace Go.Proofs.YtcionneopgdebaaGreat
open Go.RowKit

theorem popF_ne (p : Pt) : ∀ (n : Nat) (out : List Pt), out.length = n → 0 < n → 0 < (popF out p).length := by
  intro n
  induction n with
  | zero => intro _ _ h; omega
  | succ n ih =>
    intro out hn _
    cases hc : popB out p
    · rw [popF_stop hc]; omega
    · rw [popF_go hc]
      have h1 : 1 < out.length := by unfold popB at hc; simp at hc; omega
      exact ih out.dropLast (by simp; omega) (by omega)
theorem halfF_pos (l : List Pt) (h : 0 < l.length) : 0 < (halfF l).length := by
  obtain ⟨l', q, rfl⟩ : ∃ l' q, l = l' ++ [q] := ⟨l.dropLast, l.getLast (by intro e; subst e; simp at h), (List.dropLast_concat_getLast _).symm⟩
  rw [halfF_snoc]; simp
theorem halfF_two (l : List Pt) (h : 1 < l.length) : 1 < (halfF l).length := by
  obtain ⟨l', q, rfl⟩ : ∃ l' q, l = l' ++ [q] := ⟨l.dropLast, l.getLast (by intro e; subst e; simp at h), (List.dropLast_concat_getLast _).symm⟩
  rw [halfF_snoc]
  have := popF_ne q _ (halfF l') rfl (halfF_pos l' (by simp at h; omega))
  simp; omega
theorem halfF_len (l : List Pt) : (halfF l).length ≤ l.length := by
  induction h : l.length generalizing l with
  | zero => rw [List.length_eq_zero_iff.1 h]; simp [halfF]
  | succ n ih =>
    obtain ⟨l', q, rfl⟩ : ∃ l' q, l = l' ++ [q] := ⟨l.dropLast, l.getLast (by intro e; subst e; simp at h), (List.dropLast_concat_getLast _).symm⟩
    rw [halfF_snoc]
    have h1 := popF_len (halfF l') q
    have h2 := ih l' (by simpa using h)
    simp; omega
theorem pySortF_sh {l : List Pt} (h : AllSh l) : AllSh (pySortF l) := fun p hp => h p ((pySortF_mem l p).1 hp)
theorem insP_len (p : Pt) : ∀ l : List Pt, (insP p l).length ≤ l.length + 1
  | [] => by simp [insP]
  | q :: l => by
    have := insP_len p l
    unfold insP
    split
    · simp; omega
    · split <;> simp
theorem pySortF_len (l : List Pt) : (pySortF l).length ≤ l.length := by
  induction h : l.length generalizing l with
  | zero => rw [List.length_eq_zero_iff.1 h]; simp [pySortF]
  | succ n ih =>
    obtain ⟨l', q, rfl⟩ : ∃ l' q, l = l' ++ [q] := ⟨l.dropLast, l.getLast (by intro e; subst e; simp at h), (List.dropLast_concat_getLast _).symm⟩
    rw [pySortF_snoc]
    have h1 := insP_len q (pySortF l')
    have h2 := ih l' (by simpa using h)
    omega
theorem pySortF_pos {l : List Pt} (h : 0 < l.length) : 0 < (pySortF l).length := by
  obtain ⟨p, hp⟩ := List.exists_mem_of_length_pos h
  exact List.length_pos_of_mem ((pySortF_mem l p).2 hp)
theorem rowP_chg {w w' : World} {B c : Nat} {v : Value} {l : List Pt} (h : RowP w B v l) (hc : Chg c w w') (hB : c < B) : RowP w' B v l := by
  refine ⟨h.1, ?_⟩
  rcases h.2 with hn | ⟨g, cap, cur, rfl, hBg, hgg, rest⟩
  · exact .inl hn
  · refine .inr ⟨g, cap, cur, rfl, hBg, ?_, rest⟩
    rw [hc.block g (Array.getElem?_eq_some_iff.1 hgg).1 (by omega)]
    exact hgg

/-- What a hull is given as: readable, in new memory. -/
def HullTo (w : World) (l : List Pt) (e : Ending) (w' : World) : Prop := ∃ ad cap, e = .returned (.slice ad l.length cap) ∧ RdP w' ad l ∧ Below w.heap.size w w'

set_option maxHeartbeats 3200000 in
set_option maxRecDepth 100000 in
theorem hull_c (ad : Option Addr) (cap : Nat) (l : List Pt) (w : World) (hr : RdP w ad l) (hl : l.length ≤ 12) (h0 : 0 < l.length) (hs : AllSh l) :
    Calls Tryz.prog 32 #[.slice ad l.length cap] w (HullTo w (hullF (pySortF l))) := by
  have c1 := Lib.hid (clone_c ad cap l w hr (by omega) h0)
  clear hr
  have hsp := pySortF_sh hs
  have hpl := pySortF_len l
  have hpp := pySortF_pos h0
  have hcs := Lib.hid (show compactF (Sort.sort ltPt l.toArray).toList = pySortF l by rw [sort_eq]; exact sorted_same l)
  have hbd : ∀ p ∈ l, Bd p := fun p hp => (hs p hp).bd
  generalize pySortF l = s at hsp hpl hpp hcs ⊢
  go_enter Tryz.func32, Tryz.ntmps32
  go_wp2_with fail
  refine c1.out.mono ?_
  rintro e w1 ⟨g, cap1, rfl, hrow, hb1⟩
  have hgB := (World.ownsRow.lt hrow g rfl)
  have hcl : l.length ≤ cap1 := by
    obtain ⟨_, _, e1, h, _⟩ := hrow.shape
    injection e1 with _ _ e2
    omega
  have c2 := sortFunc_c g 0 cap1 l.toArray w1 (hrow.ph hbd) hgB.2 (by simp; omega)
  rw [List.size_toArray] at c2
  have C2 := Lib.hid c2; clear c2 hrow hbd
  unfold cmpV at C2
  go_wp2_with fail
  refine C2.out.mono ?_
  rintro e w2 ⟨rfl, hp2, hc2, hs2⟩
  have c3 := compact_c g 0 cap1 (Sort.sort ltPt l.toArray) w2 hp2 (by omega) (by omega)
  rw [hs2, hcs.out] at c3
  have C3 := Lib.hid c3; clear c3 hp2 hs2 hcs C2 c1
  obtain ⟨iP, hiP, hzP, hsP, hbP⟩ := info_parts Tryz.infoP
  have hB1 := hgB.1
  have HB1 := Lib.hid hb1; have HC2 := Lib.hid hc2; clear hb1 hc2
  go_wp2_with fail
  refine C3.out.mono ?_
  rintro e w3 ⟨rfl, hp3, hc3⟩
  have hb3 : Below w.heap.size w w3 := ((HB1.out.trans (HC2.out.below hB1 HB1.out.size)).trans (hc3.below hB1 (Nat.le_trans HB1.out.size HC2.out.size)))
  have hg3 : g < w3.heap.size := Nat.lt_of_lt_of_le (Nat.lt_of_lt_of_le hgB.2 HC2.out.size) hc3.size
  have HP3 := Lib.hid hp3; clear hp3 hc3 C3 HC2 HB1
  by_cases h1 : s.length = 1
  case pos =>
    have hv : hullF s = s := by unfold hullF; rw [if_pos (by omega)]
    have HV := Lib.hid hv; clear hv
    have hrd := HP3.out.rd
    have HRD := Lib.hid hrd; clear hrd
    have e1 : ((s.length : Int) == 1) = true := by simp; omega
    have HH1 := Lib.hid h1; clear h1
    go_wp2_with fail
    go_ret
    exact ⟨_, _, by rw [HV.out]; rfl, by rw [HV.out]; exact HRD.out, hb3⟩
  case neg =>
    have e1 : ((s.length : Int) == 1) = false := by simp; omega
    have hv : hullF s = (halfF s).dropLast ++ (halfF s.reverse).dropLast := by unfold hullF; rw [if_neg (by omega)]
    have HV := Lib.hid hv; clear hv
    have hrd := HP3.out.rd
    rw [List.toList_toArray] at hrd
    have c4 := half_c (some ⟨g, 0, none⟩) cap1 s w3 hrd (by omega) hpp hsp
    have C4 := Lib.hid c4; clear c4 hrd
    go_wp2_with fail
    refine C4.out.mono ?_
    rintro e w4 ⟨v4, rfl, hr4, hb4⟩
    have hp4 := HP3.out.below hb4
    have c5 := reverse_c g 0 cap1 s.toArray w4 hp4 (by simpa using hpp) (by simp; omega)
    rw [List.size_toArray] at c5
    have C5 := Lib.hid c5; clear c5 hp4
    have HR4 := Lib.hid hr4; clear hr4
    go_wp2_with fail
    refine C5.out.mono ?_
    rintro e w5 ⟨rfl, hp5, hc5, hs5⟩
    have HR5 := Lib.hid (rowP_chg HR4.out hc5 hg3)
    have hrd5 := hp5.rd
    rw [List.reverse_toArray, List.toList_toArray] at hrd5
    have c6 := half_c (some ⟨g, 0, none⟩) cap1 s.reverse w5 hrd5 (by simp; omega) (by simpa using hpp) (fun p hp => hsp p (by simpa using hp))
    rw [List.length_reverse] at c6
    have C6 := Lib.hid c6; clear c6 hrd5 hp5 hs5 C4 C5
    have hb5 : Below w.heap.size w w5 := (hb3.trans (hb4.mono hb3.size)).trans (hc5.below hB1 (Nat.le_trans hb3.size hb4.size))
    go_wp2_with fail
    refine C6.out.mono ?_
    rintro e w6 ⟨v6, rfl, hr6, hb6⟩
    obtain ⟨L1, hL1⟩ : ∃ x, (halfF s).dropLast = x := ⟨_, rfl⟩
    obtain ⟨L2, hL2⟩ : ∃ x, (halfF s.reverse).dropLast = x := ⟨_, rfl⟩
    have hn1 : L1.length ≤ 100000 := by rw [← hL1]; have := halfF_len s; simp; omega
    have hn2 : L2.length ≤ 100000 := by rw [← hL2]; have := halfF_len s.reverse; simp at this ⊢; omega
    have hn3 : 0 < L2.length := by rw [← hL2]; have := halfF_two s.reverse (by simp; omega); simp; omega
    rw [hL1] at HR5 HV
    rw [hL2] at hr6 HV
    obtain ⟨ad6, cap6, rfl, _, _⟩ := hr6.shape
    have hrd6 := hr6.rd
    obtain ⟨b6, off6, rfl, hbl6⟩ := hrd6.some hn3
    have HN := Lib.hid hrd6.news
    have HO := Lib.hid (ptsV_one L2)
    have HR6 := Lib.hid (HR5.out.below hb6)
    have hb7 : Below w.heap.size w w6 := hb5.trans (hb6.mono hb5.size)
    have hB3 : w3.heap.size ≤ w6.heap.size := Nat.le_trans (Nat.le_trans hb4.size hc5.size) hb6.size
    have hB0 := hb3.size
    clear hL1 hL2 hrd6 hr6 C6 HR5 HR4 HP3
    go_wp2_with (at_builtin; refine wpList_append_lies _ rfl _ _ 32 rfl w3.heap.size 66 iP _ 2 16 Tryz.underlyingP hiP hzP hsP hbP rfl (by omega) v4 L1.length (ptsV L1) rfl HR6.out ⟨b6, off6, none⟩ L2.length cap6 (ptsV L2) rfl (by rw [ptsV_length]) HN.out HO.out hn3 (by unfold maxLen; omega) (by omega) hB3 w6.heap.size rfl ?_; intro g7 cap7 wm hown hgrow hat hlt7; clear hat)
    have hbm : Below w.heap.size w wm := hb7.grown hgrow hb7.size (fun q e => Nat.le_trans hB0 (HR6.out.lt q e).1)
    have hrow7 : RowP wm w3.heap.size (.slice (some ⟨g7, 0, none⟩) (L1.length + L2.length) cap7) (L1 ++ L2) := rowP_congr hown (by simp) (ptsV_append L1 L2).symm
    have HR7 := Lib.hid hrow7.rd; clear hrow7 hown hgrow
    go_wp2_with fail
    go_ret
    exact ⟨some ⟨g7, 0, none⟩, cap7, by rw [HV.out, List.length_append]; rfl, by rw [HV.out]; exact HR7.out, hbm⟩

end Go.Proofs.YtcionneopgdebaaGreat

/-
  The program's test of a polygon. By an AI agent.
-/
namespace Go.Proofs.YtcionneopgdebaaGreat
open Go.RowKit

def ptB (p : Pt) : Bool := inB p.x (-100) 100 && inB p.y (-100) 100
theorem ptB_sh {p : Pt} (h : ptB p = true) : Sh p := by
  unfold ptB at h
  obtain ⟨h1, h2⟩ := Bool.and_eq_true_iff.1 h
  have := inB_t.1 h1
  have := inB_t.1 h2
  exact ⟨by omega, by omega, by omega, by omega⟩
def ptsB (l : List Pt) : Bool := inB l.length 1 40 && l.all ptB
/-- A polygon: few valid points that are their own hull. -/
def polyB (l : List Pt) : Bool := ptsB l && decide (hullF (pySortF l) = l)
theorem ptsB_t {l : List Pt} (h : ptsB l = true) : 1 ≤ l.length ∧ l.length ≤ 40 ∧ AllSh l := by
  unfold ptsB at h
  obtain ⟨h1, h2⟩ := Bool.and_eq_true_iff.1 h
  have := inB_t.1 h1
  exact ⟨by omega, by omega, fun p hp => ptB_sh (List.all_eq_true.1 h2 p hp)⟩
theorem hullF_len (s : List Pt) : (hullF s).length ≤ 2 * s.length := by
  unfold hullF
  split
  · omega
  · have := halfF_len s
    have := halfF_len s.reverse
    simp at *
    omega

set_option maxHeartbeats 800000 in
theorem isPoint_c (p : Pt) (w : World) :
    Calls Tryz.prog 90 #[ptV p] w fun e w' => e = .returned (.bool (ptB p)) ∧ Below w.heap.size w w' := by
  obtain ⟨a, b⟩ := p
  have c1 := fun w => within_any a (-100) 100 w
  have c2 := fun w => within_any b (-100) 100 w
  have hb := (Below.refl w.heap.size w).alloc (Nat.le_refl _) (.cells #[.int .i64 a, .int .i64 b] 66)
  unfold ptB ptV
  simp only
  generalize inB a (-100) 100 = u at c1 ⊢
  generalize inB b (-100) 100 = v at c2 ⊢
  have C1 := Lib.hid c1; have C2 := Lib.hid c2; clear c1 c2
  cases u
  case false =>
    go_enter Tryz.func90, Tryz.ntmps90
    go_wp2_with fail
    refine (C1.out _).mono ?_
    rintro e w' ⟨rfl, rfl⟩
    go_wp2_with fail
    go_ret
    exact ⟨rfl, hb⟩
  case true =>
    go_enter Tryz.func90, Tryz.ntmps90
    go_wp2_with fail
    refine (C1.out _).mono ?_
    rintro e w' ⟨rfl, rfl⟩
    go_wp2_with fail
    refine (C2.out _).mono ?_
    rintro e w' ⟨rfl, rfl⟩
    go_wp2_with fail
    go_ret
    exact ⟨rfl, hb⟩

def badV : Value := .func (.func 89) #[] #[]
set_option maxHeartbeats 400000 in
theorem bad_c (p : Pt) (w : World) :
    Calls Tryz.prog 89 #[ptV p] w fun e w' => e = .returned (.bool (!ptB p)) ∧ Below w.heap.size w w' := by
  have c := fun w => isPoint_c p w
  obtain ⟨a, b⟩ := p
  generalize ptB ⟨a, b⟩ = u at c ⊢
  unfold ptV at c ⊢
  simp only at c ⊢
  have C := Lib.hid c; clear c
  have hb : Below w.heap.size w (w.alloc (.cells #[.int .i64 a, .int .i64 b] 66)) := (Below.refl w.heap.size w).alloc (Nat.le_refl _) _
  go_enter Tryz.func89, Tryz.ntmps89
  go_wp2_with fail
  refine (C.out _).mono ?_
  rintro e w1 ⟨rfl, hw1⟩
  go_wp2_with fail
  go_ret
  exact ⟨rfl, hb.trans (hw1.mono hb.size)⟩

set_option maxHeartbeats 800000 in
theorem indexFunc_c (ad : Option Addr) (cap : Nat) (l : List Pt) (w : World) (hr : RdP w ad l) (hl : l.length ≤ 1048576) :
    Calls Tryz.prog 108 #[.slice ad l.length cap, badV] w fun e w' => (∃ r : Int, e = .returned (.int .i64 r) ∧ decide (0 ≤ r) = !l.all ptB) ∧ Below w.heap.size w w' := by
  have HR := Lib.hid hr; clear hr
  obtain ⟨A, hA⟩ : ∃ A, l.all ptB = A := ⟨_, rfl⟩
  rw [hA]
  have HA := Lib.hid hA; clear hA
  unfold badV
  go_enter Tryz.func108, Tryz.ntmps108
  go_wp2_with fail
  go_loopw [8] (fun i wr => ∃ k : Nat, k ≤ l.length ∧ i = .int .i64 k ∧ (l.take k).all ptB = true ∧ Below w.heap.size w wr) (fun i _ => l.length - (intOf i).toNat)
  case atStart => exact ⟨0, Nat.zero_le _, rfl, by simp, Below.refl _ _⟩
  case round =>
    obtain ⟨k, hk, rfl, hall, hbel⟩ := hrel
    have HALL := Lib.hid hall; clear hall
    by_cases hlt : k < l.length
    case neg =>
      obtain rfl : k = l.length := by omega
      obtain rfl : A = true := by rw [← HA.out]; have := HALL.out; rwa [List.take_length] at this
      go_wp2_with fail
      go_ret
      exact ⟨⟨_, rfl, by decide⟩, hbel⟩
    case pos =>
      obtain ⟨b, off, rfl, hb, c0, c1⟩ := HR.out k hlt
      have d0 := bcell hbel hb c0
      have d1 := bcell hbel hb c1
      clear c0 c1
      obtain ⟨p, hp⟩ : ∃ x, l.getD k default = x := ⟨_, rfl⟩
      rw [hp] at d0 d1
      have cb := fun w => bad_c p w
      have hst := Lib.hid (show (l.take (k + 1)).all ptB = ((l.take k).all ptB && ptB p) by rw [take_snoc' l k hlt, hp]; simp)
      have hmem := Lib.hid (show ptB p = false → A = false from fun h => by
        rw [← HA.out]
        cases hc : l.all ptB
        · rfl
        · have := List.all_eq_true.1 hc p (by rw [← hp, List.getD_eq_getElem?_getD, List.getElem?_eq_getElem hlt, Option.getD_some]; exact List.getElem_mem _)
          rw [h] at this; exact absurd this (by simp))
      generalize ptB p = u at cb hst hmem
      obtain ⟨px, py⟩ := p
      unfold ptV at cb
      simp only at cb d0 d1
      have CB := Lib.hid cb; clear cb hp
      cases u
      case false =>
        obtain rfl := hmem.out rfl
        go_wp2_with fail
        refine (CB.out _).mono ?_
        rintro e w1 ⟨rfl, hw1⟩
        go_wp2_with fail
        go_ret
        exact ⟨⟨_, rfl, by simp⟩, ball hbel hw1⟩
      case true =>
        go_wp2_with fail
        refine (CB.out _).mono ?_
        rintro e w1 ⟨rfl, hw1⟩
        go_wp2_with fail
        go_roundw
        case rel => exact ⟨k + 1, by omega, by go_num, by rw [hst.out, HALL.out]; rfl, ball hbel hw1⟩
        case measure => simp [intOf]; omega

set_option maxHeartbeats 800000 in
theorem containsFunc_c (ad : Option Addr) (cap : Nat) (l : List Pt) (w : World) (hr : RdP w ad l) (hl : l.length ≤ 1048576) :
    Calls Tryz.prog 88 #[.slice ad l.length cap, badV] w fun e w' => e = .returned (.bool (!l.all ptB)) ∧ Below w.heap.size w w' := by
  have c := Lib.hid (indexFunc_c ad cap l w hr hl)
  generalize (!l.all ptB) = A at c ⊢
  unfold badV at c ⊢
  clear hr
  go_enter Tryz.func88, Tryz.ntmps88
  go_wp2_with fail
  refine c.out.mono ?_
  rintro e w1 ⟨⟨r, rfl, hA⟩, hw1⟩
  go_wp2_with fail
  go_ret
  exact ⟨ret_bool rfl, hw1⟩

set_option maxHeartbeats 800000 in
theorem arePoints_c (ad : Option Addr) (cap : Nat) (l : List Pt) (w : World) (hr : RdP w ad l) (hl : l.length ≤ 1048576) :
    Calls Tryz.prog 66 #[.slice ad l.length cap] w fun e w' => e = .returned (.bool (ptsB l)) ∧ Below w.heap.size w w' := by
  have c1 := fun w => within_any l.length 1 40 w
  have c2 := fun w hr => containsFunc_c ad cap l w hr hl
  have HR := Lib.hid hr; clear hr
  unfold ptsB
  generalize inB l.length 1 40 = u at c1 ⊢
  generalize l.all ptB = v at c2 ⊢
  unfold badV at c2
  have C1 := Lib.hid c1; have C2 := Lib.hid c2; clear c1 c2
  cases u
  case false =>
    go_enter Tryz.func66, Tryz.ntmps66
    go_wp2_with fail
    refine (C1.out _).mono ?_
    rintro e w' ⟨rfl, rfl⟩
    go_wp2_with fail
    go_ret
    exact ⟨rfl, Below.refl _ _⟩
  case true =>
    go_enter Tryz.func66, Tryz.ntmps66
    go_wp2_with fail
    refine (C1.out _).mono ?_
    rintro e w' ⟨rfl, rfl⟩
    go_wp2_with fail
    refine (C2.out _ HR.out).mono ?_
    rintro e w1 ⟨rfl, hw1⟩
    go_wp2_with fail
    go_ret
    exact ⟨ret_bool (by simp), hw1⟩

set_option maxHeartbeats 800000 in
theorem isPolygon_c (ad : Option Addr) (cap : Nat) (l : List Pt) (w : World) (hr : RdP w ad l) (hl : l.length ≤ 12) :
    Calls Tryz.prog 38 #[.slice ad l.length cap] w fun e w' => e = .returned (.bool (polyB l)) ∧ Below w.heap.size w w' := by
  have c1 := fun w hr => arePoints_c ad cap l w hr (by omega)
  have hp := Lib.hid (fun h : ptsB l = true => ptsB_t h)
  have hlen := hullF_len (pySortF l)
  have hlen2 := pySortF_len l
  have HR := Lib.hid hr; clear hr
  have hull := Lib.hid (fun w hr hl h0 hs => hull_c ad cap l w hr hl h0 hs)
  unfold polyB
  generalize ptsB l = u at c1 hp ⊢
  generalize hullF (pySortF l) = H at hull hlen ⊢
  have C1 := Lib.hid c1; clear c1
  cases u
  case false =>
    go_enter Tryz.func38, Tryz.ntmps38
    go_wp2_with fail
    refine (C1.out _ HR.out).mono ?_
    rintro e w1 ⟨rfl, hw1⟩
    go_wp2_with fail
    go_ret
    exact ⟨rfl, hw1⟩
  case true =>
    obtain ⟨h1, h2, hs⟩ := hp.out rfl
    have HS := Lib.hid hs; clear hs
    go_enter Tryz.func38, Tryz.ntmps38
    go_wp2_with fail
    refine (C1.out _ HR.out).mono ?_
    rintro e w1 ⟨rfl, hw1⟩
    have HR1 := Lib.hid (HR.out.below hw1)
    go_wp2_with fail
    refine (hull.out _ HR1.out (by omega) (by omega) HS.out).mono ?_
    rintro e w2 ⟨ad2, cap2, rfl, hrd2, hw2⟩
    have HR2 := Lib.hid (HR1.out.below hw2)
    have HD2 := Lib.hid hrd2; clear hrd2
    have ce := Lib.hid (equal_c ad2 ad cap2 cap H l w2 HD2.out HR2.out (by omega) (by omega))
    go_wp2_with fail
    refine ce.out.mono ?_
    rintro e w3 ⟨rfl, hw3⟩
    go_wp2_with fail
    go_ret
    exact ⟨ret_bool (by simp), ball (ball hw1 hw2) hw3⟩

end Go.Proofs.YtcionneopgdebaaGreat

/-
  The reference's sorted points. Printed by gen_pysort.py.
-/
namespace Go.Proofs.YtcionneopgdebaaGreat
open Go.RowKit

set_option maxHeartbeats 3200000 in
set_option maxRecDepth 100000 in
theorem pySorted_c (ad : Option Addr) (cap : Nat) (l : List Pt) (w : World) (hr : RdP w ad l) (hl : l.length ≤ 50000) :
    Calls Tryz.prog 63 #[.slice ad l.length cap] w fun e w' => ∃ v, e = .returned v ∧ RowP w' w.heap.size v (pySortF l) ∧ Below w.heap.size w w' := by
  have HR := Lib.hid hr; clear hr
  go_enter Tryz.func63, Tryz.ntmps63
  go_wp2_with fail
  go_loopw [3, 9] (fun v i wr => ∃ k : Nat, k ≤ l.length ∧ i = .int .i64 k ∧ RowP wr w.heap.size v (pySortF (l.take k)) ∧ (pySortF (l.take k) = [] → v = .slice none 0 0) ∧ Below w.heap.size w wr) (fun _ i _ => l.length - (intOf i).toNat)
  case atStart => exact ⟨0, Nat.zero_le _, rfl, RowP.nil _ _, fun _ => rfl, Below.refl _ _⟩
  case round =>
    obtain ⟨wE, rfl⟩ : ∃ x : World, x = wr := ⟨_, rfl⟩
    obtain ⟨k, hk, rfl, hrow, hnil, hbel⟩ := hrel
    have hlen := pySortF_len (l.take k)
    rw [List.length_take] at hlen
    have HO := Lib.hid hrow; clear hrow
    by_cases hlt : k < l.length
    case neg =>
      obtain rfl : k = l.length := by omega
      rw [List.take_length] at HO
      clear hlen hnil
      go_wp2_with fail
      go_ret
      exact ⟨_, rfl, HO.out, hbel⟩
    case pos =>
      obtain ⟨b, off, rfl, hb, c0, c1⟩ := HR.out k hlt
      have d0 := bcell hbel hb c0
      have d1 := bcell hbel hb c1
      clear c0 c1
      have hnx := pySortF_snoc (l.take k) (l.getD k default)
      rw [← take_snoc' l k hlt] at hnx
      obtain ⟨p, hp⟩ : ∃ p, l.getD k default = p := ⟨_, rfl⟩
      rw [hp] at d0 d1 hnx
      obtain ⟨px, py⟩ := p
      simp only at d0 d1
      obtain ⟨o, ho⟩ : ∃ o, pySortF (l.take k) = o := ⟨_, rfl⟩
      rw [ho] at hnx HO hlen hnil
      have holen : o.length ≤ 50000 := by omega
      obtain ⟨adv, capv, rfl, hc1, hc2⟩ := HO.out.shape
      have HNX := Lib.hid hnx; have HNIL := Lib.hid hnil; clear hnx hp ho hlen hnil
      go_wp2_with fail
      obtain ⟨wB, hwB⟩ : ∃ x, wE.alloc (.cells #[.int .i64 px, .int .i64 py] 66) = x := ⟨_, rfl⟩
      have hEB : Below wE.heap.size wE wB := by rw [← hwB]; exact (Below.refl _ _).alloc (Nat.le_refl _) _
      have b0 : wB.cell? ⟨wE.heap.size, 0, none⟩ = some (.int .i64 px) := by rw [← hwB]; simp [go_sem]
      have b1 : wB.cell? ⟨wE.heap.size, 1, none⟩ = some (.int .i64 py) := by rw [← hwB]; simp [go_sem]
      have bl : wE.heap.size < wB.heap.size := by rw [← hwB]; simp
      rw [hwB]
      clear hwB d0 d1
      have HOB := Lib.hid (HO.out.below hEB)
      have hbB := ball hbel hEB
      have hzE := hbel.size
      clear hEB
      go_loopw [6] (fun i wr => ∃ k2 : Nat, k2 ≤ o.length ∧ i = .int .i64 k2 ∧ (∀ i, i < k2 → ltPt (o.getD i default) ⟨px, py⟩ = true) ∧ Below wB.heap.size wB wr) (fun i _ => o.length - (intOf i).toNat)
      case atStart => exact ⟨0, Nat.zero_le _, rfl, fun i h => absurd h (by omega), Below.refl _ _⟩
      case round =>
        obtain ⟨wF, rfl⟩ : ∃ x : World, x = wr := ⟨_, rfl⟩
        obtain ⟨k2, hk2, rfl, hall, hbF⟩ := hrel
        have HALL := Lib.hid hall; clear hall
        have e0 := bcell hbF bl b0
        have e1 := bcell hbF bl b1
        have HRF := Lib.hid (HOB.out.below hbF)
        obtain ⟨c, hc⟩ : ∃ c, (decide (k2 < o.length) && ltPt (o.getD k2 default) ⟨px, py⟩) = c := ⟨_, rfl⟩
        have HCC := Lib.hid hc; clear hc
        go_upto_region 6 with fail
        go_cut [24] from 13 to 24 (fun s wc => s = .bool c ∧ Below wF.heap.size wF wc)
        case first =>
          by_cases hle : k2 < o.length
          case neg =>
            have g1 : decide ((k2 : Int) < (o.length : Int)) = false := decide_eq_false (by omega)
            have g2 : decide (k2 < o.length) = false := decide_eq_false hle
            have HLE := Lib.hid hle; clear hle
            go_wp2_with fail
            go_quiet (fail)
            go_wp2_with fail
            go_meet
            exact ⟨by rw [← HCC.out, decide_eq_false HLE.out, Bool.false_and], bdrewN (Below.refl _ _) nq⟩
          case pos =>
            have g1 : decide ((k2 : Int) < (o.length : Int)) = true := decide_eq_true (by omega)
            have g2 : decide (k2 < o.length) = true := decide_eq_true hle
            have hrd := HRF.out.rd
            obtain ⟨bo, offo, rfl, hbo⟩ := hrd.some (by omega)
            obtain ⟨p1, p2⟩ := hrd.at hle
            have x1 : (0 : Int) ≤ (k2 : Int) := by omega
            have x2 : (k2 : Int) < (o.length : Int) := by omega
            have hcv : ltPt (o.getD k2 default) ⟨px, py⟩ = c := by have := HCC.out; rwa [decide_eq_true hle, Bool.true_and] at this
            obtain ⟨pp, hpp⟩ : ∃ x, o.getD k2 default = x := ⟨_, rfl⟩
            rw [hpp] at p1 p2 hcv
            have ct := fun w => pyBefore_c pp ⟨px, py⟩ w
            rw [hcv] at ct
            unfold ptV at ct
            have CT := Lib.hid ct; clear ct hpp hcv hrd
            have lE : wE.heap.size < wF.heap.size := Nat.lt_of_lt_of_le bl hbF.size
            go_wp2_with fail
            go_region_held3 (fun w' => (w'.cell? ⟨bo, offo + k2 * 2, none⟩ = some (.int .i64 pp.x) ∧ w'.cell? ⟨bo, offo + k2 * 2 + 1, none⟩ = some (.int .i64 pp.y)) ∧ w'.cell? ⟨wE.heap.size, 0, none⟩ = some (.int .i64 px) ∧ w'.cell? ⟨wE.heap.size, 1, none⟩ = some (.int .i64 py)) (exact ⟨⟨by assumption, by assumption⟩, by assumption, by assumption⟩)
              (first
                | (go_at_call 87; (with_reducible refine (CT.out _).mono ?_); rintro e W1 ⟨rfl, hw1⟩; have m1 := bcell hw1 hbo p1; have m2 := bcell hw1 hbo p2; have m5 := bcell hw1 lE e0; have m6 := bcell hw1 lE e1))
            go_wp2_with fail
            go_meet
            exact ⟨rfl, (Below.refl _ _).drew.trans hw1⟩
        case rest =>
          obtain ⟨rfl, hbc⟩ := hcut
          obtain ⟨wH, rfl⟩ : ∃ x : World, x = wc := ⟨_, rfl⟩
          have HRG := Lib.hid (HRF.out.below hbc)
          have hbG := ball hbF hbc
          have e2 := bcell hbc (Nat.lt_of_lt_of_le bl hbF.size) e0
          have e3 := bcell hbc (Nat.lt_of_lt_of_le bl hbF.size) e1
          have lH : wE.heap.size < wH.heap.size := Nat.lt_of_lt_of_le bl hbG.size
          clear hbc e0 e1 HRF b0 b1 hbF HOB HO
          cases c
          case true =>
            have hh : k2 < o.length ∧ ltPt (o.getD k2 default) ⟨px, py⟩ = true := by have := HCC.out; rw [Bool.and_eq_true_iff] at this; exact ⟨of_decide_eq_true this.1, this.2⟩
            have HH := Lib.hid hh.2
            have hk3 := hh.1
            clear hh HCC
            go_wp2_with fail
            go_roundw
            case rel => exact ⟨k2 + 1, by omega, by go_num, fun i hi => by
              rcases Nat.lt_or_ge i k2 with h | h
              · exact HALL.out i h
              · obtain rfl : i = k2 := by omega
                exact HH.out, hbG⟩
            case measure => simp [intOf]; omega
          case false =>
            have hstop : k2 < o.length → ltPt (o.getD k2 default) ⟨px, py⟩ = false := fun h => by have := HCC.out; rwa [decide_eq_true h, Bool.true_and] at this
            have hins := insP_at hk2 HALL.out hstop
            rw [← HNX.out] at hins
            have HINS := Lib.hid hins; clear hins hstop HCC HALL HNX
            obtain ⟨d, hd⟩ : ∃ d, (decide (k2 < o.length) && decide (o.getD k2 default = ⟨px, py⟩)) = d := ⟨_, rfl⟩
            have HD := Lib.hid hd; clear hd
            have hbH := ball hbB hbG
            clear hbB hbG bl
            go_upto_region 8 with fail
            go_cut [38] from 27 to 38 (fun s wc => s = .bool d ∧ Below wH.heap.size wH wc)
            case first =>
              by_cases hle : k2 < o.length
              case neg =>
                have g1 : decide ((k2 : Int) < (o.length : Int)) = false := decide_eq_false (by omega)
                have g2 : decide (k2 < o.length) = false := decide_eq_false hle
                have HLE := Lib.hid hle; clear hle
                go_wp2_with fail
                go_quiet (fail)
                go_wp2_with fail
                go_meet
                exact ⟨by rw [← HD.out, decide_eq_false HLE.out, Bool.false_and], bdrewN (Below.refl _ _) nq⟩
              case pos =>
                have g1 : decide ((k2 : Int) < (o.length : Int)) = true := decide_eq_true (by omega)
                have g2 : decide (k2 < o.length) = true := decide_eq_true hle
                have hrd := HRG.out.rd
                obtain ⟨bo, offo, rfl, hbo⟩ := hrd.some (by omega)
                obtain ⟨p1, p2⟩ := hrd.at hle
                have x1 : (0 : Int) ≤ (k2 : Int) := by omega
                have x2 : (k2 : Int) < (o.length : Int) := by omega
                have hdv : decide (o.getD k2 default = ⟨px, py⟩) = d := by have := HD.out; rwa [decide_eq_true hle, Bool.true_and] at this
                obtain ⟨pp, hpp⟩ : ∃ x, o.getD k2 default = x := ⟨_, rfl⟩
                rw [hpp] at p1 p2 hdv
                obtain ⟨qx, qy⟩ := pp
                simp only at p1 p2
                have HDV := Lib.hid hdv; clear hdv hpp hrd
                by_cases hx : qx = px
                case pos =>
                  subst hx
                  by_cases hy : qy = py
                  case pos =>
                    subst hy
                    obtain rfl : d = true := HDV.out.symm.trans (decide_eq_true rfl)
                    go_wp2_with fail
                    go_quiet (fail)
                    go_wp2_with fail
                    go_meet
                    exact ⟨rfl, bdrewN (Below.refl _ _) nq⟩
                  case neg =>
                    obtain rfl : d = false := HDV.out.symm.trans (decide_eq_false fun e => by injection e with e1 e2; exact hy e2)
                    go_wp2_with fail
                    go_quiet (fail)
                    go_wp2_with fail
                    go_meet
                    exact ⟨rfl, bdrewN (Below.refl _ _) nq⟩
                case neg =>
                  obtain rfl : d = false := HDV.out.symm.trans (decide_eq_false fun e => by injection e with e1 e2; exact hx e1)
                  go_wp2_with fail
                  go_quiet (fail)
                  go_wp2_with fail
                  go_meet
                  exact ⟨rfl, bdrewN (Below.refl _ _) nq⟩
            case rest =>
              obtain ⟨rfl, hbc⟩ := hcut
              obtain ⟨wG, rfl⟩ : ∃ x : World, x = wc := ⟨_, rfl⟩
              have HRI := Lib.hid (HRG.out.below hbc)
              have e0 := bcell hbc lH e2
              have e1 := bcell hbc lH e3
              have lE : wE.heap.size < wG.heap.size := Nat.lt_of_lt_of_le lH hbc.size
              have hbI := hbH.trans (hbc.mono hbH.size)
              have hBG := hbI.size
              clear hbc e2 e3 lH HRG hbH
              cases d
              case true =>
                have hv : pySortF (l.take (k + 1)) = o := by
                  have h := HD.out
                  rw [Bool.and_eq_true_iff] at h
                  have h2 := HINS.out
                  rwa [if_pos ⟨of_decide_eq_true h.1, of_decide_eq_true h.2⟩] at h2
                have HV := Lib.hid hv; clear hv HD HINS
                go_wp2_with fail
                go_roundw
                case rel => exact ⟨k + 1, by omega, by go_num, by rw [HV.out]; exact HRI.out, by rw [HV.out]; exact HNIL.out, hbI⟩
                case measure => simp [intOf]; omega
              case false =>
                have hv : pySortF (l.take (k + 1)) = o.take k2 ++ ⟨px, py⟩ :: o.drop k2 := by
                  have h := HD.out
                  have h2 := HINS.out
                  rwa [if_neg (fun hh => by rw [decide_eq_true hh.1, decide_eq_true hh.2] at h; exact absurd h (by simp))] at h2
                have HV := Lib.hid hv; clear hv HD HINS
                by_cases h0 : o = []
                case pos =>
                  subst h0
                  have hn := HNIL.out rfl
                  injection hn with hn1 _ hn2
                  subst hn1; subst hn2
                  obtain rfl : k2 = 0 := by simpa using hk2
                  clear HNIL hc1 hc2 holen hk2 HRI
                  have hbal : ∀ W' o1, Below wG.heap.size wG W' → Below wG.heap.size wG (W'.alloc o1) := fun W' o1 h => h.alloc h.size o1
                  have hbdr : ∀ W', Below wG.heap.size wG W' → Below wG.heap.size wG W'.drew := fun W' h => h.drew
                  have HBA := Lib.hid hbal; have HBD := Lib.hid hbdr; clear hbal hbdr
                  go_wp2_with fail
                  go_region_held3 (fun w' => w'.cell? ⟨wE.heap.size, 0, none⟩ = some (.int .i64 px) ∧ w'.cell? ⟨wE.heap.size, 1, none⟩ = some (.int .i64 py)) (first | exact ⟨by assumption, by assumption⟩ | exact ⟨bcell (by (with_reducible repeat (first | exact Below.refl _ _ | exact HZ1.out | apply HBD.out | apply HBA.out))) lE e0, bcell (by (with_reducible repeat (first | exact Below.refl _ _ | exact HZ1.out | apply HBD.out | apply HBA.out))) lE e1⟩)
                    (first
                      | (refine step_app (by rfl) _ _ (by rfl) wG.heap.size (.slice (some ⟨_, 0, none⟩) 0 0) (.slice none 0 0) [] (([] : List Pt)) (by rfl) (by rfl) (by (with_reducible repeat (first | exact rowP_new _ _ _ (by simp) (by simp) | apply RowP.alloc' | apply RowP.drew'))) (by (with_reducible repeat (first | exact readsP_nil _ | apply ReadsP.alloc' | apply ReadsP.drew'))) (by simp) (by first | (rw [List.length_take]; omega) | simp) (by (try simp) <;> omega) ?_; intro v1 w1 hown1 hb1 hg1; have hz1 : Below wG.heap.size wG w1 := Below.trans (by (with_reducible repeat (first | exact Below.refl _ _ | exact HZ1.out | apply HBD.out | apply HBA.out))) hb1; have HO1 := Lib.hid hown1; have HG1 := Lib.hid hg1; have n10 := bcell hz1 lE e0; have n11 := bcell hz1 lE e1; have hzz1 := hz1.size; have HZ1 := Lib.hid hz1; clear hown1 hb1 hg1 hz1)
                      | (refine step_app (by rfl) _ _ (by rfl) wG.heap.size v1 (.slice (some ⟨_, 0, none⟩) 1 1) _ [⟨px, py⟩] (by rfl) (by rfl) (by (with_reducible repeat (first | exact HO1.out | apply RowP.alloc' | apply RowP.drew'))) (by (with_reducible repeat (first | exact readsP_one _ _ _ _ (by simp) | apply ReadsP.alloc' | apply ReadsP.drew' | refine ReadsP.grown ?_ HG1.out (by simp [Value.ownBlock])))) (by (try simp) <;> omega) (by simp) (by first | exact hzz1 | ((try simp) <;> omega)) ?_; intro v2 w2 hown2 hb2 hg2; have hz2 : Below wG.heap.size wG w2 := Below.trans (by (with_reducible repeat (first | exact HZ1.out | apply HBD.out | apply HBA.out))) hb2; have HO2 := Lib.hid hown2; have n20 := bcell hz2 lE e0; have n21 := bcell hz2 lE e1; have hzz2 := hz2.size; have HZ2 := Lib.hid hz2; clear hown2 hb2 hg2 hz2)
                      | (refine step_app (by rfl) _ _ (by rfl) wG.heap.size v2 (.slice none 0 0) _ (([] : List Pt)) (by rfl) (by first | rfl | (simp [Act.eval, Array.getD]; omega)) (by (with_reducible repeat (first | exact HO2.out | apply RowP.alloc' | apply RowP.drew'))) (by (with_reducible repeat (first | exact readsP_nil _ | apply ReadsP.alloc' | apply ReadsP.drew'))) (by (try simp) <;> omega) (by first | (rw [List.length_drop]; omega) | simp) hzz2 ?_; intro v3 w3 hown3 hb3 hg3; have hz3 : Below wG.heap.size wG w3 := Below.trans (by (with_reducible repeat (first | exact HZ2.out | apply HBD.out | apply HBA.out))) hb3; have HO3 := Lib.hid hown3; have n30 := bcell hz3 lE e0; have n31 := bcell hz3 lE e1; have HZ3 := Lib.hid hz3; clear hown3 hb3 hg3 hz3))
                  all_goals
                    have hrow3 := HO3.out.mono hBG
                    have HR3 := Lib.hid hrow3
                    have hbZ := hbI.trans (HZ3.out.mono hBG)
                    clear hrow3 HO3
                    go_wp2_with fail
                    go_roundw
                    case rel => exact ⟨k + 1, by omega, by go_num, by rw [HV.out]; have := HR3.out; simpa using this, (by rw [HV.out]; intro h; simp at h), hbZ⟩
                    case measure => simp [intOf]; omega
                case neg =>
                  have hpos : 0 < o.length := List.length_pos_iff.2 h0
                  have hrd := HRI.out.rd
                  obtain ⟨bo, offo, rfl, hbo⟩ := hrd.some hpos
                  obtain ⟨hA, hBd⟩ := hrd.takeDrop k2
                  have hk3 : k2 ≤ capv := Nat.le_trans hk2 hc1
                  have HX1 := Lib.hid (show ReadsP wG (.slice (some ⟨bo, offo, none⟩) k2 capv) (o.take k2) from Or.inr ⟨_, _, capv, by rw [List.length_take, Nat.min_eq_left hk2], hA⟩)
                  have hlA : (o.take k2).length ≤ 50000 := by rw [List.length_take]; omega
                  have hlB : (o.drop k2).length ≤ 50000 := by rw [List.length_drop]; omega
                  by_cases hkc : k2 < capv
                  case pos =>
                    have HX3 := Lib.hid (show ReadsP wG (.slice (some ⟨bo, offo + k2 * 2, none⟩) (o.length - k2) (capv - k2)) (o.drop k2) from Or.inr ⟨_, _, _, by rw [List.length_drop], hBd⟩)
                    clear hrd hA hBd
                    have hbal : ∀ W' o1, Below wG.heap.size wG W' → Below wG.heap.size wG (W'.alloc o1) := fun W' o1 h => h.alloc h.size o1
                    have hbdr : ∀ W', Below wG.heap.size wG W' → Below wG.heap.size wG W'.drew := fun W' h => h.drew
                    have HBA := Lib.hid hbal; have HBD := Lib.hid hbdr; clear hbal hbdr
                    go_wp2_with fail
                    go_region_held3 (fun w' => w'.cell? ⟨wE.heap.size, 0, none⟩ = some (.int .i64 px) ∧ w'.cell? ⟨wE.heap.size, 1, none⟩ = some (.int .i64 py)) (first | exact ⟨by assumption, by assumption⟩ | exact ⟨bcell (by (with_reducible repeat (first | exact Below.refl _ _ | exact HZ1.out | apply HBD.out | apply HBA.out))) lE e0, bcell (by (with_reducible repeat (first | exact Below.refl _ _ | exact HZ1.out | apply HBD.out | apply HBA.out))) lE e1⟩)
                      (first
                        | (refine step_app (by rfl) _ _ (by rfl) wG.heap.size (.slice (some ⟨_, 0, none⟩) 0 0) (.slice (some ⟨bo, offo, none⟩) k2 capv) [] (o.take k2) (by rfl) (by rfl) (by (with_reducible repeat (first | exact rowP_new _ _ _ (by simp) (by simp) | apply RowP.alloc' | apply RowP.drew'))) (by (with_reducible repeat (first | exact (HX1.out.below (by (with_reducible repeat (first | exact Below.refl _ _ | exact HZ1.out | apply HBD.out | apply HBA.out)))) | apply ReadsP.alloc' | apply ReadsP.drew'))) (by simp) (by first | (rw [List.length_take]; omega) | simp) (by (try simp) <;> omega) ?_; intro v1 w1 hown1 hb1 hg1; have hz1 : Below wG.heap.size wG w1 := Below.trans (by (with_reducible repeat (first | exact Below.refl _ _ | exact HZ1.out | apply HBD.out | apply HBA.out))) hb1; have HO1 := Lib.hid hown1; have HG1 := Lib.hid hg1; have n10 := bcell hz1 lE e0; have n11 := bcell hz1 lE e1; have hzz1 := hz1.size; have HZ1 := Lib.hid hz1; clear hown1 hb1 hg1 hz1)
                        | (refine step_app (by rfl) _ _ (by rfl) wG.heap.size v1 (.slice (some ⟨_, 0, none⟩) 1 1) _ [⟨px, py⟩] (by rfl) (by rfl) (by (with_reducible repeat (first | exact HO1.out | apply RowP.alloc' | apply RowP.drew'))) (by (with_reducible repeat (first | exact readsP_one _ _ _ _ (by simp) | apply ReadsP.alloc' | apply ReadsP.drew' | refine ReadsP.grown ?_ HG1.out (by simp [Value.ownBlock])))) (by (try simp) <;> omega) (by simp) (by first | exact hzz1 | ((try simp) <;> omega)) ?_; intro v2 w2 hown2 hb2 hg2; have hz2 : Below wG.heap.size wG w2 := Below.trans (by (with_reducible repeat (first | exact HZ1.out | apply HBD.out | apply HBA.out))) hb2; have HO2 := Lib.hid hown2; have n20 := bcell hz2 lE e0; have n21 := bcell hz2 lE e1; have hzz2 := hz2.size; have HZ2 := Lib.hid hz2; clear hown2 hb2 hg2 hz2)
                        | (refine step_app (by rfl) _ _ (by rfl) wG.heap.size v2 (.slice (some ⟨bo, offo + k2 * 2, none⟩) (o.length - k2) (capv - k2)) _ (o.drop k2) (by rfl) (by first | rfl | (simp [Act.eval, Array.getD]; omega)) (by (with_reducible repeat (first | exact HO2.out | apply RowP.alloc' | apply RowP.drew'))) (by (with_reducible repeat (first | exact (HX3.out.below (by (with_reducible repeat (first | exact HZ2.out | apply HBD.out | apply HBA.out)))) | apply ReadsP.alloc' | apply ReadsP.drew'))) (by (try simp) <;> omega) (by first | (rw [List.length_drop]; omega) | simp) hzz2 ?_; intro v3 w3 hown3 hb3 hg3; have hz3 : Below wG.heap.size wG w3 := Below.trans (by (with_reducible repeat (first | exact HZ2.out | apply HBD.out | apply HBA.out))) hb3; have HO3 := Lib.hid hown3; have n30 := bcell hz3 lE e0; have n31 := bcell hz3 lE e1; have HZ3 := Lib.hid hz3; clear hown3 hb3 hg3 hz3))
                    all_goals
                      have hrow3 := HO3.out.mono hBG
                      have HR3 := Lib.hid hrow3
                      have hbZ := hbI.trans (HZ3.out.mono hBG)
                      clear hrow3 HO3
                      go_wp2_with fail
                      go_roundw
                      case rel => exact ⟨k + 1, by omega, by go_num, by rw [HV.out]; have := HR3.out; simpa using this, (by rw [HV.out]; intro h; simp at h), hbZ⟩
                      case measure => simp [intOf]; omega
                  case neg =>
                    obtain rfl : k2 = capv := by omega
                    have hoe : o.length = k2 := by omega
                    have HX3 := Lib.hid (show ReadsP wG (.slice (some ⟨bo, offo, none⟩) (o.length - k2) (k2 - k2)) (o.drop k2) from Or.inr ⟨_, _, _, by rw [List.length_drop], by rw [List.drop_eq_nil_of_le (by omega)]; exact RdP.nil _ _⟩)
                    clear hrd hA hBd
                    have hbal : ∀ W' o1, Below wG.heap.size wG W' → Below wG.heap.size wG (W'.alloc o1) := fun W' o1 h => h.alloc h.size o1
                    have hbdr : ∀ W', Below wG.heap.size wG W' → Below wG.heap.size wG W'.drew := fun W' h => h.drew
                    have HBA := Lib.hid hbal; have HBD := Lib.hid hbdr; clear hbal hbdr
                    go_wp2_with fail
                    go_region_held3 (fun w' => w'.cell? ⟨wE.heap.size, 0, none⟩ = some (.int .i64 px) ∧ w'.cell? ⟨wE.heap.size, 1, none⟩ = some (.int .i64 py)) (first | exact ⟨by assumption, by assumption⟩ | exact ⟨bcell (by (with_reducible repeat (first | exact Below.refl _ _ | exact HZ1.out | apply HBD.out | apply HBA.out))) lE e0, bcell (by (with_reducible repeat (first | exact Below.refl _ _ | exact HZ1.out | apply HBD.out | apply HBA.out))) lE e1⟩)
                      (first
                        | (refine step_app (by rfl) _ _ (by rfl) wG.heap.size (.slice (some ⟨_, 0, none⟩) 0 0) (.slice (some ⟨bo, offo, none⟩) k2 k2) [] (o.take k2) (by rfl) (by rfl) (by (with_reducible repeat (first | exact rowP_new _ _ _ (by simp) (by simp) | apply RowP.alloc' | apply RowP.drew'))) (by (with_reducible repeat (first | exact (HX1.out.below (by (with_reducible repeat (first | exact Below.refl _ _ | exact HZ1.out | apply HBD.out | apply HBA.out)))) | apply ReadsP.alloc' | apply ReadsP.drew'))) (by simp) (by first | (rw [List.length_take]; omega) | simp) (by (try simp) <;> omega) ?_; intro v1 w1 hown1 hb1 hg1; have hz1 : Below wG.heap.size wG w1 := Below.trans (by (with_reducible repeat (first | exact Below.refl _ _ | exact HZ1.out | apply HBD.out | apply HBA.out))) hb1; have HO1 := Lib.hid hown1; have HG1 := Lib.hid hg1; have n10 := bcell hz1 lE e0; have n11 := bcell hz1 lE e1; have hzz1 := hz1.size; have HZ1 := Lib.hid hz1; clear hown1 hb1 hg1 hz1)
                        | (refine step_app (by rfl) _ _ (by rfl) wG.heap.size v1 (.slice (some ⟨_, 0, none⟩) 1 1) _ [⟨px, py⟩] (by rfl) (by rfl) (by (with_reducible repeat (first | exact HO1.out | apply RowP.alloc' | apply RowP.drew'))) (by (with_reducible repeat (first | exact readsP_one _ _ _ _ (by simp) | apply ReadsP.alloc' | apply ReadsP.drew' | refine ReadsP.grown ?_ HG1.out (by simp [Value.ownBlock])))) (by (try simp) <;> omega) (by simp) (by first | exact hzz1 | ((try simp) <;> omega)) ?_; intro v2 w2 hown2 hb2 hg2; have hz2 : Below wG.heap.size wG w2 := Below.trans (by (with_reducible repeat (first | exact HZ1.out | apply HBD.out | apply HBA.out))) hb2; have HO2 := Lib.hid hown2; have n20 := bcell hz2 lE e0; have n21 := bcell hz2 lE e1; have hzz2 := hz2.size; have HZ2 := Lib.hid hz2; clear hown2 hb2 hg2 hz2)
                        | (refine step_app (by rfl) _ _ (by rfl) wG.heap.size v2 (.slice (some ⟨bo, offo, none⟩) (o.length - k2) (k2 - k2)) _ (o.drop k2) (by rfl) (by first | rfl | (simp [Act.eval, Array.getD]; omega)) (by (with_reducible repeat (first | exact HO2.out | apply RowP.alloc' | apply RowP.drew'))) (by (with_reducible repeat (first | exact (HX3.out.below (by (with_reducible repeat (first | exact HZ2.out | apply HBD.out | apply HBA.out)))) | apply ReadsP.alloc' | apply ReadsP.drew'))) (by (try simp) <;> omega) (by first | (rw [List.length_drop]; omega) | simp) hzz2 ?_; intro v3 w3 hown3 hb3 hg3; have hz3 : Below wG.heap.size wG w3 := Below.trans (by (with_reducible repeat (first | exact HZ2.out | apply HBD.out | apply HBA.out))) hb3; have HO3 := Lib.hid hown3; have n30 := bcell hz3 lE e0; have n31 := bcell hz3 lE e1; have HZ3 := Lib.hid hz3; clear hown3 hb3 hg3 hz3))
                    all_goals
                      have hrow3 := HO3.out.mono hBG
                      have HR3 := Lib.hid hrow3
                      have hbZ := hbI.trans (HZ3.out.mono hBG)
                      clear hrow3 HO3
                      go_wp2_with fail
                      go_roundw
                      case rel => exact ⟨k + 1, by omega, by go_num, by rw [HV.out]; have := HR3.out; simpa using this, (by rw [HV.out]; intro h; simp at h), hbZ⟩
                      case measure => simp [intOf]; omega

end Go.Proofs.YtcionneopgdebaaGreat
