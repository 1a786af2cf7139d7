/-
  The reference's reading of a line. Printed by gen_lineV.py.
-/
import Derived.Test.YtbkfgaibcoekgaaDoorLineR
namespace Go.Proofs.YtbkfgaibcoekgaaDoor
open Go.RowKit

def nP (p : List UInt8) : Int := (nuParseR p).1
def nK (p : List UInt8) : Bool := (nuParseR p).2
def lnOf (xs : List Int) : Ln := ⟨xs.getD 0 0, xs.getD 1 0, xs.getD 2 0⟩
def numsS (l : List UInt8) : Ln := lnOf ((splitL l).map nP)
def parseSB (l : List UInt8) : Bool := (splitL l).all nK && (decide ((splitL l).length = 3) && (lnB (numsS l) && decide (lineTxt (numsS l) = l)))
def parseSV (l : List UInt8) : Value := .tuple #[lnV (if parseSB l = true then numsS l else Ln.z), .bool (parseSB l)]
theorem split_len : ∀ (l : List UInt8), ∀ p ∈ splitL l, p.length ≤ l.length
  | [], p, h => by simp [splitL] at h; subst h; simp
  | x :: l, p, h => by
    have ih := split_len l
    rw [splitL] at h
    split at h
    · rcases List.mem_cons.1 h with h | h
      · subst h; simp
      · have := ih p h; simp; omega
    · revert h ih
      cases splitL l with
      | nil => intro ih h; simp at h; subst h; simp
      | cons q qs =>
        intro ih h
        rcases List.mem_cons.1 h with h | h
        · subst h; have := ih q (by simp); simp; exact this
        · have := ih p (List.mem_cons_of_mem _ h); simp; omega

set_option maxHeartbeats 6400000 in
set_option maxRecDepth 100000 in
theorem sParseLine_c (s : ByteArray) (w : World) (hs : s.size ≤ 1000) :
    Calls Tryd.prog 18 #[.string s] w fun e w' => e = .returned (parseSV s.toList) ∧ Below w.heap.size w w' := by
  obtain ⟨i0, hi0, hz0, hz1, hz2⟩ := info_parts Tryd.infoI
  have hbA : Below w.heap.size w (w.alloc (.cells #[.int .i64 0, .int .i64 0, .int .i64 0] 24)) := (Below.refl _ _).alloc (Nat.le_refl _) _
  have cs := fun w => l1Split_c s w (by omega)
  have o0 := LnO.new w 0 0 0 rfl
  have hlen := len_str s
  obtain ⟨l, hl⟩ : ∃ l, s.toList = l := ⟨_, rfl⟩
  rw [hl] at cs hlen ⊢
  have hsl := Lib.hid (split_len l)
  have hpb : parseSB l = ((splitL l).all nK && (decide ((splitL l).length = 3) && (lnB (numsS l) && decide (lineTxt (numsS l) = l)))) := rfl
  have hnL : numsS l = lnOf ((splitL l).map nP) := rfl
  unfold parseSV
  generalize parseSB l = pb at hpb ⊢
  have cl := fun w => lnGood_c (numsS l) w
  have ct := fun w h => lnText_c (numsS l) w h
  generalize numsS l = L at hpb hnL cl ct ⊢
  obtain ⟨n0, n1, n2⟩ := L
  generalize lnB ⟨n0, n1, n2⟩ = u at hpb cl ct
  generalize lineTxt ⟨n0, n1, n2⟩ = T at hpb ct
  generalize splitL l = SL at cs hpb hnL hsl
  unfold lnV Ln.z at *
  unfold strV at ct
  simp only at cl ct ⊢
  have hneq : (T == l) = decide (T = l) := Bool.eq_iff_iff.2 (by rw [beq_iff_eq, decide_eq_true_iff])
  generalize decide (T = l) = Q at hpb hneq
  have CS := Lib.hid cs; have CL := Lib.hid cl; have CT := Lib.hid ct; have HPB := Lib.hid hpb; have HNL := Lib.hid hnL; have HLEN := Lib.hid hlen; clear cs cl ct hpb hnL hlen
  go_enter Tryd.func18, Tryd.ntmps18
  go_wp2_with fail
  refine (CS.out _).mono ?_
  rintro e w1 ⟨⟨v1, D, rfl, hrow, hDS, hDl⟩, hw1⟩
  have o1 := o0.below hw1
  have hb1 := ball hbA hw1
  clear o0 hbA hw1
  obtain ⟨ad, cap, rfl, hrd⟩ : ∃ ad cap, v1 = .slice ad D.length cap ∧ (0 < D.length → ∃ g, ad = some ⟨g, 0, none⟩ ∧ Own w1 g 9 (strs D)) := by
    rcases Own.of_row hrow with ⟨h, h0, _⟩ | ⟨g, cap, h, _, _, _, ho⟩
    · exact ⟨none, 0, by rw [h, h0], fun h => by omega⟩
    · exact ⟨_, cap, h, fun _ => ⟨g, rfl, ho⟩⟩
  have HRD := Lib.hid hrd; have HDS := Lib.hid hDS; have O1 := Lib.hid o1; clear hrow hrd hDS o1
  go_wp2_with fail
  go_loopw [4, 13] (fun v i wr => ∃ k : Nat, k ≤ D.length ∧ i = .int .i64 k ∧ wr.ownsRow w1.heap.size 3 1 v k (ints ((SL.take k).map nP)) ∧ (SL.take k).all nK = true ∧ Below w1.heap.size w1 wr) (fun _ i _ => D.length - (intOf i).toNat)
  case atStart => exact ⟨0, by omega, rfl, ⟨rfl, Or.inl ⟨rfl, rfl⟩⟩, by simp, Below.refl _ _⟩
  case round =>
    obtain ⟨k, hk, rfl, hown, hok, hbel⟩ := hrel
    have HO := Lib.hid hown; have HOK := Lib.hid hok; clear hown hok
    have hsz := hbel.size
    have hDn : SL.length = D.length := by rw [← HDS.out, List.length_map]
    by_cases hlt : k < D.length
    case pos =>
      obtain ⟨g, rfl, ho⟩ := HRD.out (by omega)
      have hkS : k < SL.length := by omega
      have hc1 := (ho.below hbel ho.lt).cell? (i := k) (v := .string (D.getD k default)) (by unfold strs; rw [List.getElem?_map, List.getElem?_eq_getElem hlt, List.getD_eq_getElem?_getD, List.getElem?_eq_getElem hlt]; rfl)
      have hdt : (D.getD k default).toList = SL.getD k [] := by
        rw [← HDS.out, List.getD_eq_getElem?_getD, List.getD_eq_getElem?_getD, List.getElem?_map, List.getElem?_eq_getElem hlt]; rfl
      have hmem : SL.getD k [] ∈ SL := by rw [List.getD_eq_getElem?_getD, List.getElem?_eq_getElem hkS]; exact List.getElem_mem hkS
      have hsz2 := hsl.out _ hmem
      rw [← hdt, len_str, HLEN.out] at hsz2
      have htk : SL.take (k + 1) = SL.take k ++ [SL.getD k []] := by
        rw [List.take_succ_eq_append_getElem hkS, List.getD_eq_getElem?_getD, List.getElem?_eq_getElem hkS]; rfl
      have cp := fun w => nuParse_c (D.getD k default) w (by omega)
      rw [hdt] at cp
      unfold pairQ at cp
      clear ho hsz2 hdt
      generalize D.getD k default = d at hc1 cp
      generalize SL.getD k [] = p at htk hmem cp
      have hnk : nK p = (nuParseR p).2 := rfl
      have hnp : nP p = (nuParseR p).1 := rfl
      generalize (nuParseR p).2 = kk at hnk cp
      generalize (nuParseR p).1 = x at hnp cp
      have CP := Lib.hid cp; have HTK := Lib.hid htk; have HM := Lib.hid hmem; have HNK := Lib.hid hnk; have HNP := Lib.hid hnp; clear cp htk hmem hnk hnp
      cases kk
      case false =>
        obtain rfl : pb = false := by
          rw [HPB.out]
          have : SL.all nK = false := by
            cases h : SL.all nK
            · rfl
            · have := List.all_eq_true.1 h p HM.out; rw [HNK.out] at this; exact absurd this (by simp)
          rw [this]; rfl
        go_wp2_with fail
        refine (CP.out _).mono ?_
        rintro e w2 ⟨rfl, hw2⟩
        have hb2 := ball (hb1.trans (hbel.mono hb1.size)) hw2
        have o2 := (O1.out.below hbel).below hw2
        obtain ⟨x0, x1, x2⟩ := o2.at
        obtain ⟨y0, y1, y2⟩ := o2.fr
        go_wp2_with fail
        obtain ⟨W, hW, ⟨q0, q1, q2⟩, hB⟩ := ln3_end (a := 0) (b := 0) (c := 0) o2 hb2 (by omega)
        unfold ln3 at hW
        rw [hW]
        exact bodyPost_ret (v := .tuple #[.agg #[.int .i64 0, .int .i64 0, .int .i64 0], .bool false]) (by simp [results, Tryd.results18, go_sem, q0, q1, q2]) rfl ⟨rfl, hB⟩
      case true =>
        go_wp2_with fail
        refine (CP.out _).mono ?_
        rintro e w2 ⟨rfl, hw2⟩
        have hbel2 := hbel.trans (hw2.mono hsz)
        have hs2 := hbel2.size
        have HO2 := Lib.hid (row_below HO.out hw2)
        go_wp2_with (at_builtin; refine wpList_append_lies _ rfl _ _ 55 rfl w1.heap.size 3 i0 _ 1 8 Tryd.underlying55 hi0 hz0 hz1 hz2 rfl (by omega) _ k _ rfl (HO2.out.alloc _) ⟨w2.heap.size, 0, none⟩ 1 1 [.int .i64 x] rfl rfl (World.news_of_block (cs := #[.int .i64 x]) (t := 3) (fr := (0, 0)) (heap_alloc_new _ _)) (by simp [Value.oneCell']) (by omega) (by unfold maxLen; omega) (by omega) (by simp; omega) (w2.heap.size + 1) (by simp) ?_; intro gg gcap w5 hown5 hgrow hat5 hlt5; clear hat5)
        go_roundw
        case rel => exact ⟨k + 1, by omega, by go_num, rowC hown5 rfl (by rw [ints_one x, ints_append, HTK.out, List.map_append, ← HNP.out]; rfl), by rw [HTK.out, List.all_append, HOK.out]; simp [HNK.out], appB hbel2 hs2 HO2.out hgrow⟩
        case measure => simp [intOf]; omega
    case neg =>
      obtain rfl : k = D.length := by omega
      have hall := HOK.out
      rw [← hDn, List.take_length] at hall
      have hpb := HPB.out
      rw [hall, Bool.true_and] at hpb
      have hv : ∃ ad cap, _ = Value.slice ad ((SL.take D.length).map nP).length cap ∧ RdI wr ad ((SL.take D.length).map nP) := ResI.rd (ResI.of_row HO.out)
      have hlen : ((SL.take D.length).map nP).length = D.length := by rw [List.length_map, List.length_take]; omega
      rw [hlen] at hv
      obtain ⟨ad2, cap2, rfl, hrd⟩ := hv
      have HRD2 := Lib.hid hrd; have HDN := Lib.hid hDn; clear hrd HO hlen hall hk hlt hDn
      have o2 := O1.out.below hbel
      have hb2 := hb1.trans (hbel.mono hb1.size)
      by_cases h3 : D.length = 3
      case neg =>
        have h3' : ((D.length : Int) == 3) = false := beq_eq_false_iff_ne.2 (by omega)
        obtain rfl : pb = false := by rw [hpb, HDN.out, decide_eq_false h3]; rfl
        clear hpb h3
        obtain ⟨x0, x1, x2⟩ := o2.at
        obtain ⟨y0, y1, y2⟩ := o2.fr
        go_wp2_with fail
        obtain ⟨W, hW, ⟨q0, q1, q2⟩, hB⟩ := ln3_end (a := 0) (b := 0) (c := 0) o2 hb2 (by omega)
        unfold ln3 at hW
        rw [hW]
        exact bodyPost_ret (v := .tuple #[.agg #[.int .i64 0, .int .i64 0, .int .i64 0], .bool false]) (by simp [results, Tryd.results18, go_sem, q0, q1, q2]) rfl ⟨rfl, hB⟩
      case pos =>
        have hDn := HDN.out
        obtain ⟨sa, sb, sc, rfl⟩ : ∃ a b c, SL = [a, b, c] := by
          rw [h3] at hDn
          match SL, hDn with
          | [a, b, c], _ => exact ⟨a, b, c, rfl⟩
        have hLn := HNL.out
        have hrd : RdI wr ad2 [n0, n1, n2] := by
          have h1 := HRD2.out
          rw [h3] at h1
          have h2 : ([sa, sb, sc].take 3).map nP = [n0, n1, n2] := by
            injection hLn with e0 e1 e2
            rw [e0, e1, e2]; rfl
          rw [h2] at h1
          exact h1
        have hpb' : pb = (u && Q) := hpb
        clear hLn HRD2 hpb HPB HNL HDS HOK HDN hDn HRD hsl
        rw [h3]
        have o1 := o2
        have hb1 := hb2
        clear o2 hb2 O1
        cases u
        case false =>
          obtain rfl : pb = false := hpb'
          obtain ⟨b, off, rfl, hbl⟩ := hrd.shape (j := 0) (by simp)
          have d0 := hrd.at (j := 0) (by simp)
          have d1 := hrd.at (j := 1) (by simp)
          have d2 := hrd.at (j := 2) (by simp)
          simp only [Nat.add_zero, List.getD_cons_zero, List.getD_cons_succ] at d0 d1 d2
          clear hrd
          go_wp2_with fail
          go_region_held3 (fun w' => w'.cell? ⟨b, off, none⟩ = some (.int .i64 n0) ∧ w'.cell? ⟨b, off + 1, none⟩ = some (.int .i64 n1) ∧ w'.cell? ⟨b, off + 2, none⟩ = some (.int .i64 n2)) (with_reducible repeat' (first | apply And.intro | assumption | (apply cell_set' (Nat.ne_of_lt hbl)) | apply cell_alloc' | apply cell_drew')) (fail)
          have o2 : LnO (wr.alloc (.cells #[.int .i64 n0, .int .i64 n1, .int .i64 n2] 24)).drew w.heap.size ⟨0, 0, 0⟩ := o1.alloc _
          have p2 : LnO (wr.alloc (.cells #[.int .i64 n0, .int .i64 n1, .int .i64 n2] 24)).drew wr.heap.size ⟨n0, n1, n2⟩ := LnO.new wr n0 n1 n2 rfl
          have hb2 : Below w.heap.size w (wr.alloc (.cells #[.int .i64 n0, .int .i64 n1, .int .i64 n2] 24)).drew := (bal_alloc hb1).drew
          obtain ⟨k, hk⟩ : ∃ k, wr.heap.size = k := ⟨_, rfl⟩
          rw [hk] at p2
          clear d0 d1 d2 o1 hbl hb1
          go_wp2_with fail
          generalize (wr.alloc (.cells #[.int .i64 n0, .int .i64 n1, .int .i64 n2] 24)).drew = W2 at o2 p2 hb2 ⊢
          refine (CL.out _).mono ?_
          rintro e w3 ⟨rfl, hw3⟩
          have o3 := o2.below hw3
          have p3 := p2.below hw3
          have hb3 := ball hb2 hw3
          clear o2 p2 hb2 hw3
          obtain ⟨x0, x1, x2⟩ := o3.at
          obtain ⟨y0, y1, y2⟩ := o3.fr
          obtain ⟨z0, z1, z2⟩ := p3.at
          go_wp2_with fail
          obtain ⟨W, hW, ⟨q0, q1, q2⟩, hB⟩ := ln3_end (a := 0) (b := 0) (c := 0) o3 hb3 (by omega)
          unfold ln3 at hW
          rw [hW]
          exact bodyPost_ret (v := .tuple #[.agg #[.int .i64 0, .int .i64 0, .int .i64 0], .bool false]) (by simp [results, Tryd.results18, go_sem, q0, q1, q2]) rfl ⟨rfl, hB⟩
        case true =>
          obtain rfl : pb = Q := hpb'
          cases pb
          case false =>
            obtain ⟨b, off, rfl, hbl⟩ := hrd.shape (j := 0) (by simp)
            have d0 := hrd.at (j := 0) (by simp)
            have d1 := hrd.at (j := 1) (by simp)
            have d2 := hrd.at (j := 2) (by simp)
            simp only [Nat.add_zero, List.getD_cons_zero, List.getD_cons_succ] at d0 d1 d2
            clear hrd
            go_wp2_with fail
            go_region_held3 (fun w' => w'.cell? ⟨b, off, none⟩ = some (.int .i64 n0) ∧ w'.cell? ⟨b, off + 1, none⟩ = some (.int .i64 n1) ∧ w'.cell? ⟨b, off + 2, none⟩ = some (.int .i64 n2)) (with_reducible repeat' (first | apply And.intro | assumption | (apply cell_set' (Nat.ne_of_lt hbl)) | apply cell_alloc' | apply cell_drew')) (fail)
            have o2 : LnO (wr.alloc (.cells #[.int .i64 n0, .int .i64 n1, .int .i64 n2] 24)).drew w.heap.size ⟨0, 0, 0⟩ := o1.alloc _
            have p2 : LnO (wr.alloc (.cells #[.int .i64 n0, .int .i64 n1, .int .i64 n2] 24)).drew wr.heap.size ⟨n0, n1, n2⟩ := LnO.new wr n0 n1 n2 rfl
            have hb2 : Below w.heap.size w (wr.alloc (.cells #[.int .i64 n0, .int .i64 n1, .int .i64 n2] 24)).drew := (bal_alloc hb1).drew
            obtain ⟨k, hk⟩ : ∃ k, wr.heap.size = k := ⟨_, rfl⟩
            rw [hk] at p2
            clear d0 d1 d2 o1 hbl hb1
            go_wp2_with fail
            generalize (wr.alloc (.cells #[.int .i64 n0, .int .i64 n1, .int .i64 n2] 24)).drew = W2 at o2 p2 hb2 ⊢
            refine (CL.out _).mono ?_
            rintro e w3 ⟨rfl, hw3⟩
            have o3 := o2.below hw3
            have p3 := p2.below hw3
            have hb3 := ball hb2 hw3
            clear o2 p2 hb2 hw3
            obtain ⟨z0, z1, z2⟩ := p3.at
            go_wp2_with fail
            refine (CT.out _ trivial).mono ?_
            rintro e w4 ⟨rfl, hw4⟩
            have o4 := o3.below hw4
            have p4 := p3.below hw4
            have hb4 := ball hb3 hw4
            clear z0 z1 z2
            obtain ⟨x0, x1, x2⟩ := o4.at
            obtain ⟨y0, y1, y2⟩ := o4.fr
            obtain ⟨z0, z1, z2⟩ := p4.at
            go_wp2_with fail
            obtain ⟨W, hW, ⟨q0, q1, q2⟩, hB⟩ := ln3_end (a := 0) (b := 0) (c := 0) o4 hb4 (by omega)
            unfold ln3 at hW
            rw [hW]
            exact bodyPost_ret (v := .tuple #[.agg #[.int .i64 0, .int .i64 0, .int .i64 0], .bool false]) (by simp [results, Tryd.results18, go_sem, q0, q1, q2]) rfl ⟨rfl, hB⟩
          case true =>
            obtain ⟨b, off, rfl, hbl⟩ := hrd.shape (j := 0) (by simp)
            have d0 := hrd.at (j := 0) (by simp)
            have d1 := hrd.at (j := 1) (by simp)
            have d2 := hrd.at (j := 2) (by simp)
            simp only [Nat.add_zero, List.getD_cons_zero, List.getD_cons_succ] at d0 d1 d2
            clear hrd
            go_wp2_with fail
            go_region_held3 (fun w' => w'.cell? ⟨b, off, none⟩ = some (.int .i64 n0) ∧ w'.cell? ⟨b, off + 1, none⟩ = some (.int .i64 n1) ∧ w'.cell? ⟨b, off + 2, none⟩ = some (.int .i64 n2)) (with_reducible repeat' (first | apply And.intro | assumption | (apply cell_set' (Nat.ne_of_lt hbl)) | apply cell_alloc' | apply cell_drew')) (fail)
            have o2 : LnO (wr.alloc (.cells #[.int .i64 n0, .int .i64 n1, .int .i64 n2] 24)).drew w.heap.size ⟨0, 0, 0⟩ := o1.alloc _
            have p2 : LnO (wr.alloc (.cells #[.int .i64 n0, .int .i64 n1, .int .i64 n2] 24)).drew wr.heap.size ⟨n0, n1, n2⟩ := LnO.new wr n0 n1 n2 rfl
            have hb2 : Below w.heap.size w (wr.alloc (.cells #[.int .i64 n0, .int .i64 n1, .int .i64 n2] 24)).drew := (bal_alloc hb1).drew
            obtain ⟨k, hk⟩ : ∃ k, wr.heap.size = k := ⟨_, rfl⟩
            rw [hk] at p2
            clear d0 d1 d2 o1 hbl hb1
            go_wp2_with fail
            generalize (wr.alloc (.cells #[.int .i64 n0, .int .i64 n1, .int .i64 n2] 24)).drew = W2 at o2 p2 hb2 ⊢
            refine (CL.out _).mono ?_
            rintro e w3 ⟨rfl, hw3⟩
            have o3 := o2.below hw3
            have p3 := p2.below hw3
            have hb3 := ball hb2 hw3
            clear o2 p2 hb2 hw3
            obtain ⟨z0, z1, z2⟩ := p3.at
            go_wp2_with fail
            refine (CT.out _ trivial).mono ?_
            rintro e w4 ⟨rfl, hw4⟩
            have o4 := o3.below hw4
            have p4 := p3.below hw4
            have hb4 := ball hb3 hw4
            clear z0 z1 z2
            obtain ⟨x0, x1, x2⟩ := o4.at
            obtain ⟨y0, y1, y2⟩ := o4.fr
            obtain ⟨z0, z1, z2⟩ := p4.at
            go_wp2_with fail
            obtain ⟨W, hW, ⟨q0, q1, q2⟩, hB⟩ := ln3_end (a := n0) (b := n1) (c := n2) o4 hb4 (by omega)
            unfold ln3 at hW
            rw [hW]
            exact bodyPost_ret (v := .tuple #[.agg #[.int .i64 n0, .int .i64 n1, .int .i64 n2], .bool true]) (by simp [results, Tryd.results18, go_sem, q0, q1, q2]) rfl ⟨rfl, hB⟩

end Go.Proofs.YtbkfgaibcoekgaaDoor
