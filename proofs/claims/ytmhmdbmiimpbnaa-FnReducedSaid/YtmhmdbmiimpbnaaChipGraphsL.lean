/-
  'laws.FnChipGraphs' returns true at every input and leaves its arguments as they were: no condition.
-/
import Derived.Test.YtmhmdbmiimpbnaaChipG
import Derived.Test.YtmhmdbmiimpbnaaGenus
import Derived.Test.YtmhmdbmiimpbnaaSame
import Derived.Test.YtmhmdbmiimpbnaaLinksO
import Derived.Test.YtmhmdbmiimpbnaaDrawI
import Derived.Test.YtmhmdbmiimpbnaaOpenB
import Derived.Deep.DeepCutAuto
namespace Go.Proofs.Ytmhmdbmiimpbnaa
open Go.ChangeShapes Go.WideShapes Go.ChangeAt Go.RowKit

theorem RowL.mono {w : World} {B B' : Nat} {v : Value} {ls : List Lk} (h : RowL w B v ls) (hB : B' ≤ B) : RowL w B' v ls := by
  refine ⟨h.1, ?_⟩
  rcases h.2 with h | ⟨g, cap, cur, rfl, hg, r⟩
  · exact Or.inl h
  · exact Or.inr ⟨g, cap, cur, rfl, Nat.le_trans hB hg, r⟩
theorem RowI.mono {w : World} {B B' : Nat} {v : Value} {ls : List Int} (h : RowI w B v ls) (hB : B' ≤ B) : RowI w B' v ls := by
  refine ⟨h.1, ?_⟩
  rcases h.2 with h | ⟨g, cap, cur, rfl, hg, r⟩
  · exact Or.inl h
  · exact Or.inr ⟨g, cap, cur, rfl, Nat.le_trans hB hg, r⟩
theorem RowL.rd {w : World} {B : Nat} {v : Value} {ls : List Lk} (h : RowL w B v ls) : ∃ ad cap, v = .slice ad ls.length cap ∧ RdL w ad ls := by
  rcases Own.of_row h with ⟨rfl, h0, hx⟩ | ⟨g, cap, rfl, _, _, _, ho⟩
  · have h1 : ls = [] := List.length_eq_zero_iff.1 h0
    subst h1
    exact ⟨none, 0, rfl, fun j hj => by simp at hj⟩
  · exact ⟨_, cap, rfl, ho.rdL⟩
theorem RowI.rdV {w : World} {B : Nat} {v : Value} {xs : List Int} (h : RowI w B v xs) : RdV w v xs := (ResI.of_row h).rdV
theorem selF_succ (k : Nat) (p : Nat → Bool) : selF (k + 1) p = selF k p ++ if p k = true then [(k : Int)] else [] := by
  cases h : p k
  · rw [selF_miss h, if_neg (by simp)]; simp
  · rw [selF_hit h, if_pos rfl]
theorem isum_sm' : ∀ (xs : List Int), isum xs = sm xs.length fun j => xs.getD j 0 := by
  intro xs
  have key : ∀ k, k ≤ xs.length → isum (xs.take k) = sm k fun j => xs.getD j 0 := by
    intro k
    induction k with
    | zero => intro _; simp [isum_nil, sm]
    | succ k ih => intro hk; rw [isum_tk_succ (by omega), ih (by omega)]; rfl
  have := key xs.length (Nat.le_refl _)
  rwa [List.take_length] at this
/-- What a draw from bytes gives: a graph. -/
def GraphR (P : Int → List Lk → Prop) (w : World) (e : Ending) (w' : World) : Prop := ∃ (m : Int) (v : Value) (ls : List Lk), e = .returned (.tuple #[.int .i64 m, v]) ∧ P m ls ∧ RowL w' w.heap.size v ls ∧ Below w.heap.size w w'

set_option maxHeartbeats 800000 in
theorem drawIsGraph_c (ad : Option Addr) (len cap : Nat) (w : World) (hl : len ≤ 9223372036854775807) (hr : RdB w ad len) :
    Calls Try.prog 54 #[.slice ad len cap] w (GraphR (fun m ls => -1 ≤ m ∧ m ≤ 9 ∧ ls.length ≤ 129) w) := by
  have HC := Lib.hid (cur_new (cap := cap) hr hl)
  clear hr
  go_enter Try.func54, Try.ntmps54
  go_wp2_with fail
  refine (anyGraph_c w.heap.size 0 _ HC.out (by omega)).mono ?_
  rintro e w1 ⟨m, v, ls, rfl, hp, hrow, hcu, hch⟩
  have HR := Lib.hid (hrow.mono (B' := w.heap.size) (by simp)); clear hrow
  have HP := Lib.hid hp; clear hp
  go_wp2_with fail
  go_ret2
  exact ⟨m, v, ls, rfl, HP.out, HR.out, chg_new hch⟩
set_option maxHeartbeats 800000 in
theorem drawLaplacianOf_c (ad : Option Addr) (len cap : Nat) (w : World) (hl : len ≤ 9223372036854775807) (hr : RdB w ad len) :
    Calls Try.prog 7 #[.slice ad len cap] w (GraphR (fun m ls => -1 ≤ m ∧ m ≤ 9 ∧ ls.length ≤ 129) w) := by
  go_enter Try.func7, Try.ntmps7
  go_wp2_with fail
  refine (drawIsGraph_c ad len cap w hl hr).mono ?_
  rintro e w1 ⟨m, v, ls, rfl, hp, hrow, hb⟩
  have HR := Lib.hid hrow; clear hrow
  have HP := Lib.hid hp; clear hp
  go_wp2_with fail
  go_ret2
  exact ⟨m, v, ls, rfl, HP.out, HR.out, hb⟩
def SetR (w : World) (e : Ending) (w' : World) : Prop := ∃ (m : Int) (v : Value) (ls : List Lk) (u : Value) (xs : List Int), e = .returned (.tuple #[.int .i64 m, v, u]) ∧ -1 ≤ m ∧ m ≤ 9 ∧ ls.length ≤ 129 ∧ xs.length ≤ 11 ∧ RowL w' w.heap.size v ls ∧ RowI w' w.heap.size u xs ∧ Below w.heap.size w w'
set_option maxHeartbeats 800000 in
theorem drawLinksOut_c (ad : Option Addr) (len cap : Nat) (w : World) (hl : len ≤ 9223372036854775807) (hr : RdB w ad len) :
    Calls Try.prog 22 #[.slice ad len cap] w (SetR w) := by
  have HC := Lib.hid (cur_new (cap := cap) hr hl)
  clear hr
  go_enter Try.func22, Try.ntmps22
  go_wp2_with fail
  refine (anyGraph_c w.heap.size 0 _ HC.out (by omega)).mono ?_
  rintro e w1 ⟨m, v, ls, rfl, ⟨hm1, hm2, hls⟩, hrow, hcu, hch⟩
  have HR := Lib.hid (hrow.mono (B' := w.heap.size + 1) (by simp)); clear hrow
  have HU := Lib.hid hcu; clear hcu
  have hz := hch.size
  rw [World.size_alloc] at hz
  go_wp2_with fail
  refine (vertices_c m w.heap.size _ _ HU.out (by omega) (by omega) (by omega)).mono ?_
  rintro e w2 ⟨u, xs, rfl, hxs, hrow2, hcu2, hch2⟩
  have HR2 := Lib.hid (hrow2.mono (B' := w.heap.size) (by omega)); clear hrow2
  go_wp2_with fail
  go_ret3
  exact ⟨m, v, ls, u, xs, rfl, hm1, hm2, hls, hxs, RowL.mono (row_chg HR.out hch2 (by omega)) (by omega), HR2.out, chg_new (hch.trans hch2)⟩

def bigB (a b : Nat) : Bool := decide (1048576 < (a : Int)) || decide (1048576 - (a : Int) < (b : Int))
set_option maxHeartbeats 800000 in
theorem big_c (ad : Option Addr) (a cap : Nat) (ad' : Option Addr) (b cap' : Nat) (w : World) (ha : a ≤ 9223372036854775807) :
    Calls Try.prog 6 #[.slice ad a cap, .slice ad' b cap'] w fun e w' => e = .returned (.bool (bigB a b)) ∧ w = w' := by
  by_cases h1 : 1048576 < (a : Int)
  · have hd : bigB a b = true := by unfold bigB; simp [h1]
    have HD := Lib.hid hd; clear hd
    go_enter Try.func6, Try.ntmps6
    go_wp2_with fail
    go_ret
    exact ⟨ret_bool (by rw [HD.out]), rfl⟩
  · have h3 : bigB a b = decide (1048576 - (a : Int) < (b : Int)) := by unfold bigB; rw [decide_eq_false h1]; rfl
    have HD := Lib.hid h3; clear h3
    go_enter Try.func6, Try.ntmps6
    go_wp2_with fail
    go_ret
    exact ⟨ret_bool (by rw [HD.out]), rfl⟩

set_option maxHeartbeats 400000 in
theorem implIsGraph_c (n : Int) (ad : Option Addr) (cap : Nat) (ls : List Lk) (w : World) (hl : ls.length ≤ 1048576) (hr : RdL w ad ls) :
    Calls Try.prog 20 #[.int .i64 n, .slice ad ls.length cap] w fun e w' => e = .returned (.bool (goodL n ls)) ∧ Below w.heap.size w w' := by
  go_enter Try.func20, Try.ntmps20
  go_wp2_with fail
  refine (isGraph_any n ad cap ls _ hl hr).mono ?_
  rintro e w1 ⟨rfl, hb⟩
  go_wp2
  go_ret
  exact ⟨rfl, hb⟩

theorem lapl_g (n : Int) (ls : List Lk) : laplR n ls = ((laplR n ls).1, goodL n ls) := by unfold laplR; cases goodL n ls <;> rfl
theorem val_g (n : Int) (ls : List Lk) : valR n ls = ((valR n ls).1, goodL n ls) := by unfold valR; cases goodL n ls <;> rfl
theorem can_g (n : Int) (ls : List Lk) : canR n ls = ((canR n ls).1, goodL n ls) := by unfold canR; cases goodL n ls <;> rfl
theorem genus_g (n : Int) (ls : List Lk) : genusR n ls = ((genusR n ls).1, goodL n ls) := by unfold genusR; cases goodL n ls <;> rfl
theorem conn_g (n : Int) (ls : List Lk) : connR n ls = ((connR n ls).1, goodL n ls) := by unfold connR; cases goodL n ls <;> rfl

set_option maxHeartbeats 6400000 in
set_option maxRecDepth 100000 in
theorem lawChipGraphs_any (ad0 : Option Addr) (n0 cap0 : Nat) (ad1 : Option Addr) (n1 cap1 : Nat) (w : World) (hm0 : n0 ≤ 9223372036854775807) (hr0 : RdB w ad0 n0) (hm1 : n1 ≤ 9223372036854775807) (hr1 : RdB w ad1 n1) :
    Calls Try.prog 3 #[.slice ad0 n0 cap0, .slice ad1 n1 cap1] w fun e w' => e = .returned (.bool true) ∧ Below w.heap.size w w' := by
  have HB0 := Lib.hid hr0; clear hr0
  have HB1 := Lib.hid hr1; clear hr1
  go_enter Try.func3, Try.ntmps3
  go_wp2_with fail
  refine (big_c _ _ _ _ _ _ _ hm0).mono ?_
  rintro e w' ⟨rfl, rfl⟩
  cases bigB n0 n1
  case true =>
    go_wp2_with fail
    go_ret
    exact ⟨rfl, Below.refl _ _⟩
  case false =>
    go_wp2_with fail
    refine (drawLaplacianOf_c ad0 n0 cap0 _ hm0 HB0.out).mono ?_
    rintro e w1 ⟨m, v, ls, rfl, ⟨hm1', hm2', hls⟩, hrow, hb1⟩
    obtain ⟨adl, capl, rfl, hrl⟩ := hrow.rd
    clear hrow
    have HL := Lib.hid hrl; clear hrl
    have c1 := fun w h => implLapl_c m adl capl ls w (by omega) h
    have c2 := fun w h => specLapl_c m adl capl ls w (by omega) h
    have c3 := fun w h => implVal_c m adl capl ls w (by omega) h
    have c4 := fun w h => specVal_c m adl capl ls w (by omega) h
    have c5 := fun w h => implGenus_c m adl capl ls w (by omega) h
    have c6 := fun w h => specGenus_c m adl capl ls w (by omega) h
    have c7 := fun w h => implCan_c m adl capl ls w (by omega) h
    have c8 := fun w h => specCan_c m adl capl ls w (by omega) h
    have c9 := fun w h => implConn_c m adl capl ls w (by omega) h
    have c10 := fun w h => specConn_c m adl capl ls w (by omega) h
    have c11 := fun w h => implIsGraph_c m adl capl ls w (by omega) h
    rw [lapl_g] at c1 c2
    rw [val_g] at c3 c4
    rw [genus_g] at c5 c6
    rw [can_g] at c7 c8
    rw [conn_g] at c9 c10
    have hsm := Lib.hid (laplR_small m ls)
    have hlv := valR_len m ls
    have hlc := canR_len m ls
    have eL := Lib.hid (show goodL m ls = true → (laplR m ls).1 = tab m.toNat fun i => tab m.toNat (lapF ls i) from fun h => by unfold laplR; rw [if_pos h])
    have eV := Lib.hid (show goodL m ls = true → (valR m ls).1 = tab m.toNat (valF ls) from fun h => by unfold valR; rw [if_pos h])
    have eG := Lib.hid (show goodL m ls = true → (genusR m ls).1 = edgeF ls - m + 1 from fun h => by unfold genusR; rw [if_pos h])
    have eC := Lib.hid (show goodL m ls = true → (canR m ls).1 = tab m.toNat fun i => valF ls i - 2 from fun h => by unfold canR; rw [if_pos h])
    have eN := Lib.hid (show goodL m ls = true → (connR m ls).1 = connB m ls from fun h => by unfold connR; rw [if_pos h])
    have hgd := Lib.hid (show goodL m ls = true → goodL m ls = true from id)
    generalize (laplR m ls).1 = rows at c1 c2 hsm eL
    generalize (valR m ls).1 = vals at c3 c4 hlv eV
    generalize (genusR m ls).1 = gen at c5 c6 eG
    generalize (canR m ls).1 = cans at c7 c8 hlc eC
    generalize (connR m ls).1 = con at c9 c10 eN
    generalize hgg : goodL m ls = gd at c1 c2 c3 c4 c5 c6 c7 c8 c9 c10 c11 eL eV eG eC eN hgd
    have HGG := Lib.hid hgg; clear hgg hgd
    have C1 := Lib.hid c1; have C2 := Lib.hid c2; have C3 := Lib.hid c3; have C4 := Lib.hid c4; have C5 := Lib.hid c5; have C6 := Lib.hid c6
    have C7 := Lib.hid c7; have C8 := Lib.hid c8; have C9 := Lib.hid c9; have C10 := Lib.hid c10; have C11 := Lib.hid c11
    clear c1 c2 c3 c4 c5 c6 c7 c8 c9 c10 c11
    go_wp2_with fail
    refine (C1.out _ HL.out).mono ?_
    rintro e w2 ⟨v1, rfl, hv1, hb2⟩
    have bL2 := hb2
    have V1 := Lib.hid hv1; clear hv1
    go_wp2_with fail
    refine (C2.out _ (HL.out.below bL2)).mono ?_
    rintro e w3 ⟨v2, rfl, hv2, hb3⟩
    obtain ⟨ad2, cap2, rfl, _⟩ := hv2.rdR
    have bL3 := ball bL2 hb3
    have V2 := Lib.hid hv2; clear hv2
    have V1 := Lib.hid (V1.out.below hb3)
    go_wp2_with fail
    refine (C3.out _ (HL.out.below bL3)).mono ?_
    rintro e w4 ⟨v3, rfl, hv3, hb4⟩
    have bL4 := ball bL3 hb4
    have V3 := Lib.hid hv3; clear hv3
    go_wp2_with fail
    refine (C4.out _ (HL.out.below bL4)).mono ?_
    rintro e w5 ⟨v4, rfl, hv4, hb5⟩
    obtain ⟨ad4, cap4, rfl, _⟩ := hv4.rdV
    have bL5 := ball bL4 hb5
    have V4 := Lib.hid hv4; clear hv4
    go_wp2_with fail
    refine (C5.out _ (HL.out.below bL5)).mono ?_
    rintro e w6 ⟨rfl, hb6⟩
    have bL6 := ball bL5 hb6
    go_wp2_with fail
    refine (C6.out _ (HL.out.below bL6)).mono ?_
    rintro e w7 ⟨rfl, hb7⟩
    have bL7 := ball bL6 hb7
    go_wp2_with fail
    refine (C7.out _ (HL.out.below bL7)).mono ?_
    rintro e w8 ⟨v7, rfl, hv7, hb8⟩
    have bL8 := ball bL7 hb8
    have V7 := Lib.hid hv7; clear hv7
    go_wp2_with fail
    refine (C8.out _ (HL.out.below bL8)).mono ?_
    rintro e w9 ⟨v8, rfl, hv8, hb9⟩
    have bL9 := ball bL8 hb9
    have V8 := Lib.hid hv8; clear hv8
    go_wp2_with fail
    refine (C9.out _ (HL.out.below bL9)).mono ?_
    rintro e w10 ⟨rfl, hb10⟩
    have bL10 := ball bL9 hb10
    go_wp2_with fail
    refine (C10.out _ (HL.out.below bL10)).mono ?_
    rintro e w11 ⟨rfl, hb11⟩
    have bL11 := ball bL10 hb11
    go_wp2_with fail
    refine (sameLists_v _ _ rows _ hsm.out (V1.out.below (ball (ball (ball (ball (ball (ball (ball (ball hb4 hb5) hb6) hb7) hb8) hb9) hb10) hb11) (Below.refl _ _))).rdR (V2.out.below (ball (ball (ball (ball (ball (ball (ball (ball hb4 hb5) hb6) hb7) hb8) hb9) hb10) hb11) (Below.refl _ _))).rdR).mono ?_
    rintro e w12 ⟨rfl, hb12⟩
    have bL12 := ball bL11 hb12
    have b412 := ball (ball (ball (ball (ball (ball (ball hb5 hb6) hb7) hb8) hb9) hb10) hb11) hb12
    have b512 := ball (ball (ball (ball (ball (ball hb6 hb7) hb8) hb9) hb10) hb11) hb12
    have V3 := Lib.hid (V3.out.below b412)
    have V4 := Lib.hid (V4.out.below b512)
    have V2 := Lib.hid (V2.out.below (ball (ball hb4 b412) (Below.refl _ _)))
    go_wp2_with fail
    refine (sameInts_v _ _ vals _ hlv V3.out.rdV V4.out.rdV).mono ?_
    rintro e w13 ⟨rfl, hb13⟩
    have bL13 := ball bL12 hb13
    have b813 := ball (ball (ball (ball hb9 hb10) hb11) hb12) hb13
    have b913 := ball (ball (ball hb10 hb11) hb12) hb13
    have V7 := Lib.hid (V7.out.below b813)
    have V8 := Lib.hid (V8.out.below b913)
    go_wp2_with fail
    refine (sameInts_v _ _ cans _ hlc V7.out.rdV V8.out.rdV).mono ?_
    rintro e w14 ⟨rfl, hb14⟩
    have bL14 := ball bL13 hb14
    go_wp2_with fail
    refine (C11.out _ (HL.out.below bL14)).mono ?_
    rintro e w15 ⟨rfl, hb15⟩
    have bL15 := ball bL14 hb15
    have b1315 := ball hb14 hb15
    have V2 := Lib.hid (V2.out.below (ball hb13 b1315))
    have V4 := Lib.hid (V4.out.below (ball hb13 b1315))
    have V8 := Lib.hid (V8.out.below b1315)
    go_upto_if 189 with fail
    go_cut [] (fun wc => Below w.heap.size w wc)
    case first =>
      have bw15 := ball hb1 bL15
      clear hb1 hb2 hb3 hb4 hb5 hb6 hb7 hb8 hb9 hb10 hb11 hb12 hb13 hb14 hb15 bL2 bL3 bL4 bL5 bL6 bL7 bL8 bL9 bL10 bL11 bL12 bL13 bL14 b412 b512 b813 b913 b1315
      clear C1 C2 C3 C4 C5 C6 C7 C8 C9 C10 C11
      cases gd
      case false =>
        go_wp2_with fail
        go_meet
        exact bw15
      case true =>
        obtain ⟨hn1, hn2⟩ := good_n HGG.out
        obtain ⟨N, rfl⟩ : ∃ N : Nat, m = N := ⟨m.toNat, by omega⟩
        have fL := eL.out rfl
        rw [Int.toNat_natCast] at fL
        have kL := Lib.hid fL; clear fL eL
        have fV := eV.out rfl
        rw [Int.toNat_natCast] at fV
        have kV := Lib.hid fV; clear fV eV
        have fC := eC.out rfl
        rw [Int.toNat_natCast] at fC
        have kC := Lib.hid fC; clear fC eC
        have kN := Lib.hid (eN.out rfl)
        have kG := Lib.hid (eG.out rfl)
        clear eN eG
        have hE := edgeF_bound HGG.out (by omega) ls.length
        rw [List.take_length] at hE
        have hEB := Lib.hid (fun k => edgeF_bound HGG.out (show ls.length ≤ 1048576 by omega) k)
        have hsv := Lib.hid (show isum vals = 2 * edgeF ls by rw [kV.out, isum_sm', tab_length, sm_congr (fun i hi => tab_getD hi 0), val_total rfl HGG.out])
        have hsc := Lib.hid (show isum cans = 2 * (edgeF ls - (N : Int) + 1) - 2 by rw [kC.out, isum_sm', tab_length, sm_congr (fun i hi => tab_getD hi 0), sm_sub, sm_const, val_total rfl HGG.out]; omega)
        have hce := Lib.hid (show con = true → 0 ≤ edgeF ls - (N : Int) + 1 from fun h => by have := conn_edges rfl HGG.out (kN.out.symm.trans h); omega)
        have hgen := kG.out
        subst hgen
        have hVB := Lib.hid (show ∀ x ∈ vals, -1000000000000 ≤ x ∧ x ≤ 1000000000000 from fun x hx => by
          rw [kV.out] at hx
          obtain ⟨j, _, rfl⟩ := List.mem_map.1 hx
          have := valF_bound HGG.out (show ls.length ≤ 1048576 by omega) ls.length j
          rw [List.take_length] at this
          omega)
        have hCB := Lib.hid (show ∀ x ∈ cans, -1000000000000 ≤ x ∧ x ≤ 1000000000000 from fun x hx => by
          rw [kC.out] at hx
          obtain ⟨j, _, rfl⟩ := List.mem_map.1 hx
          have := valF_bound HGG.out (show ls.length ≤ 1048576 by omega) ls.length j
          rw [List.take_length] at this
          omega)
        have HL15 := Lib.hid (HL.out.below bL15)
        clear hm1' hm2' bL15
        go_wp2_with fail
        go_loopw [27, 192] (fun s i wr => ∃ k : Nat, k ≤ ls.length ∧ i = .int .i64 k ∧ s = .int .i64 (edgeF (ls.take k)) ∧ Below w15.heap.size w15 wr) (fun _ i _ => ls.length - (intOf i).toNat)
        case atStart => exact ⟨0, Nat.zero_le _, rfl, rfl, Below.refl _ _⟩
        case round =>
          obtain ⟨k, hk, rfl, rfl, hbel⟩ := hrel
          have hek := hEB.out k
          by_cases hlt : k < ls.length
          case pos =>
            obtain ⟨b, off, rfl, hb, c0, c1, c2⟩ := HL15.out k hlt
            have d0 := bcell hbel hb c0
            have d1 := bcell hbel hb c1
            have d2 := bcell hbel hb c2
            clear c0 c1 c2
            obtain ⟨xl, hx⟩ : ∃ xl, ls.getD k Lk.z = xl := ⟨_, rfl⟩
            obtain ⟨g1, g2, g3, g4, g5⟩ := good_lk HGG.out hlt hx
            have st := edgeF_step hlt hx
            rw [hx] at d0 d1 d2
            obtain ⟨xa, xb, xn⟩ := xl
            simp only at d0 d1 d2 g1 g2 g3 g4 g5 st
            have HST := Lib.hid st; clear st hx
            have hbX := hbel.alloc hbel.size (.cells #[.int .i64 xa, .int .i64 xb, .int .i64 xn] 41)
            generalize edgeF (ls.take k) = s at hek HST ⊢
            go_wp2_with fail
            go_roundw
            case rel => exact ⟨k + 1, by omega, by go_num, by rw [HST.out], hbX⟩
            case measure => simp [intOf]; omega
          case neg =>
            have he : k = ls.length := by omega
            subst he
            rw [List.take_length]
            clear hek
            obtain ⟨wo, rfl⟩ : ∃ wo : World, wo = wr := ⟨_, rfl⟩
            have hb16 := ball bw15 hbel
            have V2 := Lib.hid (V2.out.below hbel)
            have V4 := Lib.hid (V4.out.below hbel)
            have V8 := Lib.hid (V8.out.below hbel)
            have cs := fun w h => pSum_v (.slice ad4 vals.length cap4) vals w hlv hVB.out h
            have cc := fun w h => pSum_v v8 cans w hlc hCB.out h
            rw [hsv.out] at cs
            rw [hsc.out] at cc
            have CS := Lib.hid cs; clear cs
            have CC := Lib.hid cc; clear cc
            go_wp2_with fail
            refine (CS.out _ V4.out.rdV).mono ?_
            rintro e w' ⟨rfl, rfl⟩
            go_wp2_with fail
            refine (CC.out _ V8.out.rdV).mono ?_
            rintro e w' ⟨rfl, rfl⟩
            have hrd2 : ∀ k, k < N → ∃ b off br offr capr, ad2 = some ⟨b, off, none⟩ ∧ b < wo.heap.size ∧ wo.cell? ⟨b, off + k, none⟩ = some (.slice (some ⟨br, offr, none⟩) N capr) ∧ wo.cell? ⟨br, offr + k, none⟩ = some (.int .i64 (valF ls k)) ∧ br < wo.heap.size ∧ RdI wo (some ⟨br, offr, none⟩) (tab N (lapF ls k)) := fun k hk => by
              obtain ⟨ad', cap', e, hr⟩ := V2.out.rdR
              simp only [Value.slice.injEq] at e
              obtain ⟨rfl, _, _⟩ := e
              obtain ⟨b, off, u, rfl, hb, hc, adr, capr, rfl, hu⟩ := hr k (by rw [kL.out, tab_length]; exact hk)
              rw [kL.out, tab_getD hk] at hc hu
              rw [tab_length] at hc
              obtain ⟨br, offr, rfl, hbr, hcr⟩ := hu k (by rw [tab_length]; exact hk)
              rw [tab_getD hk, show lapF ls k k = valF ls k from if_pos rfl] at hcr
              exact ⟨b, off, br, offr, capr, rfl, hb, hc, hcr, hbr, hu⟩
            have hrd4 : ∀ k, k < N → ∃ b off, ad4 = some ⟨b, off, none⟩ ∧ b < wo.heap.size ∧ wo.cell? ⟨b, off + k, none⟩ = some (.int .i64 (valF ls k)) := fun k hk => by
              obtain ⟨ad', cap', e, hr⟩ := V4.out.rdV
              simp only [Value.slice.injEq] at e
              obtain ⟨rfl, _, _⟩ := e
              obtain ⟨b, off, rfl, hb, hc⟩ := hr k (by rw [kV.out, tab_length]; exact hk)
              rw [kV.out, tab_getD hk] at hc
              exact ⟨b, off, rfl, hb, hc⟩
            have HRD2 := Lib.hid hrd2; clear hrd2
            have HRD4 := Lib.hid hrd4; clear hrd4
            have hrl : rows.length = N := by rw [kL.out, tab_length]
            have hvl : vals.length = N := by rw [kV.out, tab_length]
            have hpr := Lib.hid (show ∀ k, k < N → ∀ (v : Value) (w : World), RdV w v (tab N (lapF ls k)) → Calls Try.prog 21 #[v] w fun e w' => e = .returned (.int .i64 0) ∧ w = w' from fun k hk v w h => by
              have := pSum_v v (tab N (lapF ls k)) w (by rw [tab_length]; omega) (fun x hx => by
                obtain ⟨j, _, rfl⟩ := List.mem_map.1 hx
                have := lapF_bound HGG.out (show ls.length ≤ 1048576 by omega) ls.length k j
                rw [List.take_length] at this
                omega) h
              rw [isum_sm', tab_length, sm_congr (fun i hi => tab_getD hi 0), show lapF ls k = lapE (betF ls) (valF ls) k from rfl, lap_zero (gr_of rfl HGG.out) hk] at this
              exact this)
            have HRL := Lib.hid hrl; clear hrl
            have HVL := Lib.hid hvl; clear hvl
            cases con
            all_goals
              try have hce0 := hce.out rfl
              go_wp2_with fail
              go_loopw [231] (fun i wr => ∃ k : Nat, k ≤ rows.length ∧ i = .int .i64 k ∧ Below wo.heap.size wo wr) (fun i _ => rows.length - (intOf i).toNat)
              case atStart => exact ⟨0, Nat.zero_le _, rfl, Below.refl _ _⟩
              case round =>
                obtain ⟨k, hk, rfl, hbel⟩ := hrel
                by_cases hlt : k < rows.length
                case pos =>
                  have hkN : k < N := by have := HRL.out; omega
                  obtain ⟨b, off, br, offr, capr, rfl, hb, hc, hcr, hbr, hu⟩ := HRD2.out k hkN
                  obtain ⟨b4, off4, rfl, hb4, hc4⟩ := HRD4.out k hkN
                  have d1 := bcell hbel hb hc
                  have d2 := bcell hbel (p := ⟨br, offr + k, none⟩) hbr hcr
                  have d3 := bcell hbel hb4 hc4
                  have hq := Lib.hid (fun n => hpr.out k hkN (.slice (some ⟨br, offr, none⟩) N capr) (wr.drewN n) ⟨_, capr, by rw [tab_length], hu.below (bdrewN hbel n)⟩)
                  have x1 : (0 : Int) ≤ (k : Int) := by omega
                  have x2 : (k : Int) < (N : Int) := by omega
                  have x3 : (k : Int) < (vals.length : Int) := by have := HVL.out; omega
                  generalize valF ls k = vv at d2 d3
                  clear hc hcr hc4 hu
                  go_wp2_with fail
                  go_quiet ((go_at_call 21; exact Calls.quiet_of_same ((hq.out _).mono (fun e w' h => ⟨h.1, h.2.symm⟩))))
                  go_wp2_with fail
                  go_roundw
                  case rel => exact ⟨k + 1, by omega, by go_num, bdrewN hbel _⟩
                  case measure => simp [intOf]; omega
                case neg =>
                  go_wp2_with fail
                  go_meet
                  exact ball hb16 hbel
    case rest =>
      clear hb1 hb2 hb3 hb4 hb5 hb6 hb7 hb8 hb9 hb10 hb11 hb12 hb13 hb14 hb15 bL2 bL3 bL4 bL5 bL6 bL7 bL8 bL9 bL10 bL11 bL12 bL13 bL14 bL15 b412 b512 b813 b913 b1315
      clear C1 C2 C3 C4 C5 C6 C7 C8 C9 C10 C11 V1 V2 V3 V4 V7 V8 HL hsm hlv hlc eL eV eG eC eN HGG
      obtain ⟨iI, hiI0, hiI1, hiI2, hiI3⟩ := info_parts Try.infoI
      go_wp2_with fail
      refine (drawLinksOut_c ad1 n1 cap1 _ hm1 (HB1.out.below hcut)).mono ?_
      rintro e x1 ⟨k, vx, lx, ux, xs, rfl, hk1, hk2, hlx, hxs, hrow, hrowu, hbx1⟩
      obtain ⟨adx, capx, rfl, hrx⟩ := hrow.rd
      obtain ⟨adu, capu, rfl, hru⟩ := hrowu.rdV
      have RX := Lib.hid hrx; clear hrx hrow
      have RU := Lib.hid hru; clear hru hrowu
      have bw1 := ball hcut hbx1
      have d1 := fun w h h' => implLinks_o k adx capx lx adu capu xs w (by omega) h (by omega) h'
      have d2 := fun w h h' => specLinks_o k adx capx lx adu capu xs w (by omega) h (by omega) h'
      have d3 := Lib.hid (fun ad cap ys w hl h h' => implLinks_o k adx capx lx ad cap ys w (by omega) h hl h')
      have hL := Lib.hid (show (linksR k lx xs).2 = true → goodL k lx = true ∧ (linksR k lx xs).1 = linkOut lx xs from fun h => by
        unfold linksR at h ⊢
        split at h
        · rename_i hh; rw [if_pos hh]; exact ⟨hh.1, rfl⟩
        · simp at h)
      generalize linksR k lx xs = r at d1 d2 hL
      obtain ⟨lo, ok2⟩ := r
      have D1 := Lib.hid d1; clear d1
      have D2 := Lib.hid d2; clear d2
      go_wp2_with fail
      refine (D1.out _ RX.out RU.out).mono ?_
      rintro e x2 ⟨rfl, hbx2⟩
      go_wp2_with fail
      refine (D2.out _ (RX.out.below hbx2) (RU.out.below hbx2)).mono ?_
      rintro e x3 ⟨rfl, hbx3⟩
      have b13 := ball hbx2 hbx3
      have bw3 := ball bw1 b13
      cases ok2
      case false =>
        go_wp2_with fail
        go_ret
        exact ⟨rfl, bw3⟩
      case true =>
        have hg := (hL.out rfl).1
        have hlo := (hL.out rfl).2
        obtain ⟨hn1, hn2⟩ := good_n hg
        obtain ⟨K, rfl⟩ : ∃ K : Nat, k = K := ⟨k.toNat, by omega⟩
        have hr2 := Lib.hid (show linksR K lx (restF K xs) = (lo, true) by
          unfold linksR; rw [if_pos ⟨hg, restF_ris K xs⟩, link_rest rfl hg, hlo])
        have hrl := restF_len K xs
        have RX3 := Lib.hid (RX.out.below b13); clear RX
        have RU3 := Lib.hid (RU.out.below b13); clear RU
        clear hg hlo hL D1 D2
        have hsc := Lib.hid (fun i => selF_succ i (fun v => !decide ((v : Int) ∈ xs)))
        have hsl := fun i => selF_len i (fun v => !decide ((v : Int) ∈ xs))
        have HSL := Lib.hid hsl; clear hsl
        go_wp2_with fail
        go_loopw [39, 40] (fun v i wr => ∃ j : Nat, j ≤ K ∧ i = .int .i64 j ∧ RowI wr x3.heap.size v (selF j (fun v => !decide ((v : Int) ∈ xs))) ∧ Below x3.heap.size x3 wr) (fun _ i _ => K - (intOf i).toNat)
        case atStart => exact ⟨0, by omega, rfl, by rw [selF_zero]; exact RowI.nil _ _, Below.refl _ _⟩
        case round =>
          obtain ⟨j, hj, rfl, hrow, hbel⟩ := hrel
          have HR := Lib.hid hrow; clear hrow
          have hjl := HSL.out j
          have hst := Lib.hid (hsc.out j)
          by_cases hlt : j < K
          case pos =>
            have hp := pIn_v (.slice adu xs.length capu) xs j wr (by omega) ⟨adu, capu, rfl, RU3.out.below hbel⟩
            have hsz := hbel.size
            generalize hzz : selF j (fun v => !decide ((v : Int) ∈ xs)) = zs at HR hjl hst
            clear hzz
            by_cases hmem : (j : Int) ∈ xs
            case pos =>
              rw [decide_eq_true hmem] at hp hst
              clear hmem
              have HP := Lib.hid hp; clear hp
              go_wp2_with fail
              refine HP.out.mono ?_
              rintro e w' ⟨rfl, rfl⟩
              go_wp2_with fail
              go_roundw
              case rel => exact ⟨j + 1, by omega, by go_num, by rw [hst.out]; simpa using HR.out, hbel⟩
              case measure => simp [intOf]; omega
            case neg =>
              rw [decide_eq_false hmem] at hp hst
              clear hmem
              have HP := Lib.hid hp; clear hp
              go_wp2_with fail
              refine HP.out.mono ?_
              rintro e w' ⟨rfl, rfl⟩
              go_wp2_with (at_builtin; refine wpList_append_lies _ rfl _ _ 30 rfl x3.heap.size 3 iI _ 1 8 Try.underlying30 hiI0 hiI1 hiI2 hiI3 rfl (by omega) u39 zs.length (ints zs) rfl (HR.out.alloc _) ⟨wr.heap.size, 0, none⟩ 1 1 [.int .i64 j] rfl rfl (World.news_of_block (cs := #[.int .i64 j]) (t := 3) (fr := (0, 0)) (heap_alloc_new _ _)) (by simp [Value.oneCell']) (by omega) (by unfold maxLen; omega) (by omega) (by simp; omega) (wr.heap.size + 1) (by simp) ?_; intro g cap wm hown hgrow hat hltx; clear hat)
              have hbm := app_below hbel hsz HR.out hgrow
              have hrow2 : RowI wm x3.heap.size (.slice (some ⟨g, 0, none⟩) (zs.length + 1) cap) (zs ++ [(j : Int)]) := row_congr hown (by simp) (by simp [ints])
              go_roundw
              case rel => exact ⟨j + 1, by omega, by go_num, by rw [hst.out]; simpa using hrow2, hbm⟩
              case measure => simp [intOf]; omega
          case neg =>
            have he : j = K := by omega
            subst he
            obtain ⟨ado, capo, rfl, hro⟩ := HR.out.rdV
            have d4 := d3.out ado capo (restF j xs) wr (by omega) (RX3.out.below hbel) hro
            rw [hr2.out] at d4
            have D4 := Lib.hid d4; clear d4 hro hst
            have HRL : Hid ((selF j (fun v => !decide ((v : Int) ∈ xs))).length = (restF j xs).length) := Lib.hid rfl
            rw [HRL.out]
            clear HRL
            go_wp2_with fail
            refine D4.out.mono ?_
            rintro e x5 ⟨rfl, hbx5⟩
            go_wp2_with fail
            go_ret
            exact ⟨rfl, ball (ball bw3 hbel) hbx5⟩

end Go.Proofs.Ytmhmdbmiimpbnaa
