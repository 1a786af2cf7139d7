/-
  The program's split of a text into three numbers. Printed by gen_lineW.py.
-/
import Derived.Test.YtbkfgaibcoekgaaDoorLineE
import Derived.Test.YtbkfgaibcoekgaaDoorLineT
namespace Go.Proofs.YtbkfgaibcoekgaaDoor
open Go.RowKit

structure LaidL (w : World) : Prop where
  s : LaidS w
  m : ∃ m, w.cell? ⟨0, 0, none⟩ = some (.int .i64 m)
theorem LaidL.below {w w' : World} (h : LaidL w) (hb : Below w.heap.size w w') : LaidL w' := by
  obtain ⟨m, hm⟩ := h.m
  exact ⟨h.s.below hb, m, bcell' hb hm⟩
theorem Tryd.infoS : (Tryd.prog.info? 9).map (fun i => (i.zero, i.size, i.bytes)) = some (some (.string ⟨#[]⟩), 1, 16) := by kernel_rfl

def stepF (r : List UInt8) (k : Nat) : List UInt8 × List UInt8 × Bool := if k < 2 then Lib.cut r [32] else (r, [], true)
def restF (l : List UInt8) : Nat → List UInt8
  | 0 => l
  | k + 1 => (stepF (restF l k) k).2.1
def partF (l : List UInt8) (k : Nat) : List UInt8 := (stepF (restF l k) k).1
def okF (l : List UInt8) (k : Nat) : Bool := (stepF (restF l k) k).2.2 && (Lib.atoi (partF l k)).isSome
def numF (l : List UInt8) (k : Nat) : Int := (Lib.atoi (partF l k)).getD 0
def goodF (l : List UInt8) : Bool := okF l 0 && (okF l 1 && okF l 2)
def PB (l : List UInt8) : Prop := ∀ k, k < 3 → (partF l k).length ≤ 18 ∧ (restF l k).length ≤ 1000
theorem goodF_f {l : List UInt8} {k : Nat} (hk : k < 3) (h : okF l k = false) : goodF l = false := by
  unfold goodF
  have : k = 0 ∨ k = 1 ∨ k = 2 := by omega
  rcases this with rfl | rfl | rfl <;> simp [h]

theorem cut_e (R : List UInt8) (w : World) (hs : R.length ≤ 1000) (hL : LaidL w) :
    Calls Tryd.prog 53 #[.string ⟨R.toArray⟩, .string ⟨#[32]⟩] w fun e w' => e = .returned (.tuple #[.string ⟨(Lib.cut R [32]).1.toArray⟩, .string ⟨(Lib.cut R [32]).2.1.toArray⟩, .bool (Lib.cut R [32]).2.2]) ∧ Below w.heap.size w w' := by
  obtain ⟨m, hm⟩ := hL.m
  refine (Tryd.strings_Cut ⟨R.toArray⟩ ⟨#[32]⟩ m w (by simp [ByteArray.size]; omega) hm).mono ?_
  rintro e w' ⟨rfl, n, rfl⟩
  exact ⟨rfl, bdrewN (Below.refl _ _) n⟩
theorem atoi_e (P : List UInt8) (w : World) (hs : P.length ≤ 18) (hL : LaidL w) :
    Calls Tryd.prog 54 #[.string ⟨P.toArray⟩] w fun e w' => (∃ v, e = .returned v ∧ AtoiV P v) ∧ Below w.heap.size w w' := by
  have h := atoi_c ⟨P.toArray⟩ w (by simpa [ByteArray.size] using hs) hL.s
  rw [ByteArray.toList_mk] at h
  exact h

set_option maxHeartbeats 6400000 in
set_option maxRecDepth 100000 in
theorem splitWhole_c (l : List UInt8) (g : Nat) (w : World) (hg : Own w g 9 (strs [⟨#[32]⟩, ⟨#[32]⟩])) (hp : PB l) (hL : LaidL w) :
    Calls Tryd.prog 32 #[.string ⟨l.toArray⟩, .slice (some ⟨g, 0, none⟩) 2 2] w fun e w' => (∃ v, e = .returned (.tuple #[v, .bool (goodF l)]) ∧ (goodF l = true → ∃ ad cap, v = .slice ad 3 cap ∧ RdI w' ad [numF l 0, numF l 1, numF l 2])) ∧ Below w.heap.size w w' := by
  obtain ⟨iS, hiS, hzS, hsS, hbS⟩ := info_parts Tryd.infoS
  obtain ⟨i0, hi0, hz0, hz1, hz2⟩ := info_parts Tryd.infoI
  have HP := Lib.hid hp; have HL := Lib.hid hL; clear hp hL
  have hbA : Below w.heap.size w (w.alloc (.cells #[] 3)) := (Below.refl _ _).alloc (Nat.le_refl _) _
  have cclone := Tryd.slices_Clone_string g 0 2 2 [⟨#[32]⟩, ⟨#[32]⟩] (w.alloc (.cells #[] 3)) (by simp) (by omega) (fun j hj => by
    have h1 := Own.cell? (Own.alloc hg (.cells #[] 3)) (i := j) (v := .string (([⟨#[32]⟩, ⟨#[32]⟩] : List ByteArray).getD j ByteArray.empty)) (by
      have : j = 0 ∨ j = 1 := by simp at hj; omega
      rcases this with rfl | rfl <;> rfl)
    simpa using h1)
  have hv := rowE w 3
  have CCL := Lib.hid cclone; have HV := Lib.hid hv; have HG := Lib.hid hg; clear cclone hv hg
  go_enter Tryd.func32, Tryd.ntmps32
  go_wp2_with fail
  refine CCL.out.mono ?_
  rintro e w1 ⟨v1, rfl, hrow, hnn, hw1⟩
  obtain ⟨gv, cv, rfl, hgv⟩ : ∃ gv cv, v1 = .slice (some ⟨gv, 0, none⟩) 2 cv ∧ w.heap.size + 1 ≤ gv := by
    rcases Own.of_row hrow with ⟨h, _⟩ | ⟨gv, cv, h, hgv, _⟩
    · exact absurd h hnn
    · exact ⟨gv, cv, h, by simpa using hgv⟩
  clear hnn
  have HO := Lib.hid hrow
  have hb1 := ball hbA hw1
  have hs1 := hb1.size
  have hv1 := Lib.hid (row_below (row_below HV.out hw1) ((Below.refl _ _).alloc (Nat.le_refl _) (.cells #[.string ⟨#[]⟩] 9)))
  have hs1' : w.heap.size + 1 ≤ w1.heap.size := by have := hw1.size; simpa using this
  clear hrow hw1
  go_wp2_with (at_builtin; refine wpList_append_lies _ rfl _ _ 64 rfl _ 9 iS _ 1 16 Tryd.underlying64 hiS hzS hsS hbS rfl (by omega) (.slice (some ⟨gv, 0, none⟩) 2 cv) 2 _ rfl (HO.out.alloc _) ⟨w1.heap.size, 0, none⟩ 1 1 [.string ⟨#[]⟩] rfl rfl (World.news_of_block (cs := #[.string ⟨#[]⟩]) (t := 9) (fr := (0, 0)) (heap_alloc_new _ _)) (by simp [Value.oneCell']) (by omega) (by unfold maxLen; omega) (by omega) (by have := hb1.size; simp; omega) (w1.heap.size + 1) (by simp) ?_; intro gs caps w2 hown hgrow hat hlts)
  have hb2 : Below w.heap.size w w2 := (hb1.alloc hs1 (.cells #[.string ⟨#[]⟩] 9)).grown hgrow (by simp; omega) (fun q e => by simp [Value.ownBlock] at e; omega)
  have hgs : w.heap.size + 1 ≤ gs := by
    rcases hat with h | h
    · simp [Value.ownBlock] at h; omega
    · omega
  have hv2 := hv1.out.kept hgrow (Or.inr (by simp [Value.ownBlock]; omega))
  have hsep : Own w2 gs 9 (strs [⟨#[32]⟩, ⟨#[32]⟩, ⟨#[]⟩]) := by
    rcases Own.of_row hown with ⟨h, _⟩ | ⟨g2, c2, h, _, _, _, ho⟩
    · cases h
    · cases h; exact ho
  clear hat hown hgrow hv1 HV HO hgv hs1 hs1' hb1 hbA
  have HV2 := Lib.hid hv2; have HS2 := Lib.hid hsep; clear hv2 hsep
  go_loopw [0, 6, 20] (fun r v i wr => ∃ k : Nat, k ≤ 3 ∧ i = .int .i64 k ∧ r = .string ⟨(restF l k).toArray⟩ ∧ (wr.ownsRow w.heap.size 3 1 v k (ints (tab k (numF l))) ∧ v.ownBlock ≠ some gs) ∧ Own wr gs 9 (strs [⟨#[32]⟩, ⟨#[32]⟩, ⟨#[]⟩]) ∧ (∀ j, j < k → okF l j = true) ∧ Below w.heap.size w wr) (fun _ _ i _ => 3 - (intOf i).toNat)
  case atStart => exact ⟨0, by omega, rfl, rfl, ⟨HV2.out, by simp [Value.ownBlock]; omega⟩, HS2.out, by omega, hb2⟩
  case round =>
    obtain ⟨k, hk, rfl, rfl, ⟨hown, hob⟩, hsep, hok, hbel⟩ := hrel
    clear HV2 HS2 hb2
    have hsz := hbel.size
    by_cases hlt : k < 3
    case neg =>
      obtain rfl : k = 3 := by omega
      have hgood := Lib.hid (show goodF l = true by unfold goodF; rw [hok 0 (by omega), hok 1 (by omega), hok 2 (by omega)]; rfl)
      have hv : ∃ ad cap, _ = Value.slice ad 3 cap ∧ RdI wr ad [numF l 0, numF l 1, numF l 2] := ResI.rd (ResI.of_row hown)
      clear hok hown hob hsep
      obtain ⟨ad, cap, rfl, hrd⟩ := hv
      have HR := Lib.hid hrd; clear hrd
      go_wp2_with fail
      go_ret2
      exact ⟨⟨.slice ad 3 cap, by rw [hgood.out]; rfl, fun _ => ⟨ad, cap, rfl, HR.out⟩⟩, hbel⟩
    case pos =>
      have HK := Lib.hid hok; have HO := Lib.hid hown; have HB := Lib.hid hob; have HS := Lib.hid hsep; clear hok hown hob hsep
      obtain ⟨hpl, hrl⟩ := HP.out k hlt
      have hok0 := Lib.hid (show okF l k = false → goodF l = false from goodF_f hlt)
      have c3 : k = 0 ∨ k = 1 ∨ k = 2 := by omega
      rcases c3 with rfl | rfl | rfl
      · have hcell := HS.out.cell? (i := 0) (v := .string ⟨#[32]⟩) rfl
        have hnum : numF l 0 = (Lib.atoi (partF l 0)).getD 0 := rfl
        have hokd : okF l 0 = ((stepF (restF l 0) 0).2.2 && (Lib.atoi (partF l 0)).isSome) := rfl
        have hrest : (stepF (restF l 0) 0).2.1 = restF l 1 := rfl
        have hpart : (stepF (restF l 0) 0).1 = partF l 0 := rfl
        have ca := fun w hL => atoi_e (partF l 0) w hpl hL
        unfold AtoiV at ca
        have hstep : stepF (restF l 0) 0 = Lib.cut (restF l 0) [32] := rfl
        have cc := fun w hL => cut_e (restF l 0) w hrl hL
        rw [← hstep, hpart, hrest] at cc
        obtain ⟨o, ho⟩ : ∃ o, (stepF (restF l 0) 0).2.2 = o := ⟨_, rfl⟩
        rw [ho] at cc hokd
        have CC := Lib.hid cc; clear cc hstep ho hrest hpart hrl hpl
        obtain ⟨u, hu⟩ : ∃ u, Lib.atoi (partF l 0) = u := ⟨_, rfl⟩
        rw [hu] at ca hokd hnum
        clear hu
        have h63 := HK.out
        obtain ⟨P, hP⟩ : ∃ P : ByteArray, (⟨(partF l 0).toArray⟩ : ByteArray) = P := ⟨_, rfl⟩
        rw [hP] at ca CC
        clear hP
        have HN := Lib.hid hnum; clear hnum
        cases u with
        | none =>
          have hbad := hok0.out (by rw [hokd]; simp)
          have HBAD := Lib.hid hbad; clear hbad
          have CA := Lib.hid ca; clear ca hokd
          cases o
          all_goals
            go_wp2_with fail
            refine (CC.out _ (HL.out.below hbel)).mono ?_
            rintro e w3 ⟨rfl, hw3⟩
            have hb3 := ball hbel hw3
            go_wp2_with fail
            refine (CA.out _ (HL.out.below hb3)).mono ?_
            rintro e w4 ⟨⟨v, rfl, tp, pp, rfl⟩, hw4⟩
            have hb4 := ball hb3 hw4
            go_wp2_with fail
            go_ret2
            exact ⟨⟨.slice none 0 0, by rw [HBAD.out]; rfl, fun h => absurd (HBAD.out.symm.trans h) (by simp)⟩, hb4⟩
        | some n =>
          cases o
          case false =>
            have hbad := hok0.out (by rw [hokd]; simp)
            have HBAD := Lib.hid hbad; clear hbad
            have CA := Lib.hid ca; clear ca hokd
            go_wp2_with fail
            refine (CC.out _ (HL.out.below hbel)).mono ?_
            rintro e w3 ⟨rfl, hw3⟩
            have hb3 := ball hbel hw3
            go_wp2_with fail
            refine (CA.out _ (HL.out.below hb3)).mono ?_
            rintro e w4 ⟨⟨v, rfl, rfl⟩, hw4⟩
            have hb4 := ball hb3 hw4
            go_wp2_with fail
            go_ret2
            exact ⟨⟨.slice none 0 0, by rw [HBAD.out]; rfl, fun h => absurd (HBAD.out.symm.trans h) (by simp)⟩, hb4⟩
          case true =>
            have hokk := Lib.hid (show okF l 0 = true by rw [hokd]; rfl)
            have CA := Lib.hid ca; clear ca hokd hok0
            go_wp2_with fail
            refine (CC.out _ (HL.out.below hbel)).mono ?_
            rintro e w3 ⟨rfl, hw3⟩
            have hb3 := ball hbel hw3
            go_wp2_with fail
            refine (CA.out _ (HL.out.below hb3)).mono ?_
            rintro e w4 ⟨⟨v, rfl, rfl⟩, hw4⟩
            have hb4 := ball hb3 hw4
            have hs4 := hb4.size
            have HO4 := Lib.hid (row_below HO.out (ball hw3 hw4))
            have HS4 := Lib.hid (HS.out.belowAll (ball hw3 hw4))
            have hgs4 := HS4.out.lt
            go_wp2_with (at_builtin; refine wpList_append_lies _ rfl _ _ 55 rfl w.heap.size 3 i0 _ 1 8 Tryd.underlying55 hi0 hz0 hz1 hz2 rfl (by omega) _ 0 (ints (tab 0 (numF l))) rfl (HO4.out.alloc _) ⟨w4.heap.size, 0, none⟩ 1 1 [.int .i64 n] rfl rfl (World.news_of_block (cs := #[.int .i64 n]) (t := 3) (fr := (0, 0)) (heap_alloc_new _ _)) (by simp [Value.oneCell']) (by omega) (by unfold maxLen; omega) (by omega) (by simp; omega) (w4.heap.size + 1) (by simp) ?_; intro gg gcap w5 hown5 hgrow hat5 hlt5)
            have hb5 := appB hb4 hs4 HO4.out hgrow
            have HS5 := Lib.hid ((HS4.out.alloc (.cells #[.int .i64 n] 3)).grown hgrow HB.out)
            have hgg : gg ≠ gs := by
              rcases hat5 with h | h
              · intro he; subst he; exact HB.out h
              · omega
            go_roundw
            case rel =>
              refine ⟨1, by omega, by go_num, rfl, ⟨rowC hown5 rfl (by rw [ints_one n, ints_append]; congr 1; rw [show n = numF l 0 from HN.out.symm]; rfl), by simp [Value.ownBlock]; exact hgg⟩, HS5.out, fun j hj => ?_, hb5⟩
              by_cases hjk : j = 0
              · subst hjk; exact hokk.out
              · exact HK.out j (by omega)
            case measure => simp [intOf]
      · have hcell := HS.out.cell? (i := 1) (v := .string ⟨#[32]⟩) rfl
        have hnum : numF l 1 = (Lib.atoi (partF l 1)).getD 0 := rfl
        have hokd : okF l 1 = ((stepF (restF l 1) 1).2.2 && (Lib.atoi (partF l 1)).isSome) := rfl
        have hrest : (stepF (restF l 1) 1).2.1 = restF l 2 := rfl
        have hpart : (stepF (restF l 1) 1).1 = partF l 1 := rfl
        have ca := fun w hL => atoi_e (partF l 1) w hpl hL
        unfold AtoiV at ca
        have hstep : stepF (restF l 1) 1 = Lib.cut (restF l 1) [32] := rfl
        have cc := fun w hL => cut_e (restF l 1) w hrl hL
        rw [← hstep, hpart, hrest] at cc
        obtain ⟨o, ho⟩ : ∃ o, (stepF (restF l 1) 1).2.2 = o := ⟨_, rfl⟩
        rw [ho] at cc hokd
        have CC := Lib.hid cc; clear cc hstep ho hrest hpart hrl hpl
        obtain ⟨u, hu⟩ : ∃ u, Lib.atoi (partF l 1) = u := ⟨_, rfl⟩
        rw [hu] at ca hokd hnum
        clear hu
        have h63 := HK.out
        obtain ⟨P, hP⟩ : ∃ P : ByteArray, (⟨(partF l 1).toArray⟩ : ByteArray) = P := ⟨_, rfl⟩
        rw [hP] at ca CC
        clear hP
        have HN := Lib.hid hnum; clear hnum
        cases u with
        | none =>
          have hbad := hok0.out (by rw [hokd]; simp)
          have HBAD := Lib.hid hbad; clear hbad
          have CA := Lib.hid ca; clear ca hokd
          cases o
          all_goals
            go_wp2_with fail
            refine (CC.out _ (HL.out.below hbel)).mono ?_
            rintro e w3 ⟨rfl, hw3⟩
            have hb3 := ball hbel hw3
            go_wp2_with fail
            refine (CA.out _ (HL.out.below hb3)).mono ?_
            rintro e w4 ⟨⟨v, rfl, tp, pp, rfl⟩, hw4⟩
            have hb4 := ball hb3 hw4
            go_wp2_with fail
            go_ret2
            exact ⟨⟨.slice none 0 0, by rw [HBAD.out]; rfl, fun h => absurd (HBAD.out.symm.trans h) (by simp)⟩, hb4⟩
        | some n =>
          cases o
          case false =>
            have hbad := hok0.out (by rw [hokd]; simp)
            have HBAD := Lib.hid hbad; clear hbad
            have CA := Lib.hid ca; clear ca hokd
            go_wp2_with fail
            refine (CC.out _ (HL.out.below hbel)).mono ?_
            rintro e w3 ⟨rfl, hw3⟩
            have hb3 := ball hbel hw3
            go_wp2_with fail
            refine (CA.out _ (HL.out.below hb3)).mono ?_
            rintro e w4 ⟨⟨v, rfl, rfl⟩, hw4⟩
            have hb4 := ball hb3 hw4
            go_wp2_with fail
            go_ret2
            exact ⟨⟨.slice none 0 0, by rw [HBAD.out]; rfl, fun h => absurd (HBAD.out.symm.trans h) (by simp)⟩, hb4⟩
          case true =>
            have hokk := Lib.hid (show okF l 1 = true by rw [hokd]; rfl)
            have CA := Lib.hid ca; clear ca hokd hok0
            go_wp2_with fail
            refine (CC.out _ (HL.out.below hbel)).mono ?_
            rintro e w3 ⟨rfl, hw3⟩
            have hb3 := ball hbel hw3
            go_wp2_with fail
            refine (CA.out _ (HL.out.below hb3)).mono ?_
            rintro e w4 ⟨⟨v, rfl, rfl⟩, hw4⟩
            have hb4 := ball hb3 hw4
            have hs4 := hb4.size
            have HO4 := Lib.hid (row_below HO.out (ball hw3 hw4))
            have HS4 := Lib.hid (HS.out.belowAll (ball hw3 hw4))
            have hgs4 := HS4.out.lt
            go_wp2_with (at_builtin; refine wpList_append_lies _ rfl _ _ 55 rfl w.heap.size 3 i0 _ 1 8 Tryd.underlying55 hi0 hz0 hz1 hz2 rfl (by omega) _ 1 (ints (tab 1 (numF l))) rfl (HO4.out.alloc _) ⟨w4.heap.size, 0, none⟩ 1 1 [.int .i64 n] rfl rfl (World.news_of_block (cs := #[.int .i64 n]) (t := 3) (fr := (0, 0)) (heap_alloc_new _ _)) (by simp [Value.oneCell']) (by omega) (by unfold maxLen; omega) (by omega) (by simp; omega) (w4.heap.size + 1) (by simp) ?_; intro gg gcap w5 hown5 hgrow hat5 hlt5)
            have hb5 := appB hb4 hs4 HO4.out hgrow
            have HS5 := Lib.hid ((HS4.out.alloc (.cells #[.int .i64 n] 3)).grown hgrow HB.out)
            have hgg : gg ≠ gs := by
              rcases hat5 with h | h
              · intro he; subst he; exact HB.out h
              · omega
            go_roundw
            case rel =>
              refine ⟨2, by omega, by go_num, rfl, ⟨rowC hown5 rfl (by rw [ints_one n, ints_append]; congr 1; rw [show n = numF l 1 from HN.out.symm]; rfl), by simp [Value.ownBlock]; exact hgg⟩, HS5.out, fun j hj => ?_, hb5⟩
              by_cases hjk : j = 1
              · subst hjk; exact hokk.out
              · exact HK.out j (by omega)
            case measure => simp [intOf]
      · have hcell := HS.out.cell? (i := 2) (v := .string ⟨#[]⟩) rfl
        have hnum : numF l 2 = (Lib.atoi (partF l 2)).getD 0 := rfl
        have hokd : okF l 2 = ((stepF (restF l 2) 2).2.2 && (Lib.atoi (partF l 2)).isSome) := rfl
        have hrest : (stepF (restF l 2) 2).2.1 = restF l 3 := rfl
        have hpart : (stepF (restF l 2) 2).1 = partF l 2 := rfl
        have ca := fun w hL => atoi_e (partF l 2) w hpl hL
        unfold AtoiV at ca
        rw [show partF l 2 = restF l 2 from rfl] at ca hokd hnum
        rw [show (stepF (restF l 2) 2).2.2 = true from rfl] at hokd
        clear hrest hpart hrl hpl
        obtain ⟨u, hu⟩ : ∃ u, Lib.atoi (restF l 2) = u := ⟨_, rfl⟩
        rw [hu] at ca hokd hnum
        clear hu
        have h63 := HK.out
        have HN := Lib.hid hnum; clear hnum
        cases u with
        | none =>
          have hbad := hok0.out (by rw [hokd]; simp)
          have HBAD := Lib.hid hbad; clear hbad
          have CA := Lib.hid ca; clear ca hokd
          go_wp2_with fail
          refine (CA.out _ (HL.out.below hbel)).mono ?_
          rintro e w4 ⟨⟨v, rfl, tp, pp, rfl⟩, hw4⟩
          have hb4 := ball hbel hw4
          go_wp2_with fail
          go_ret2
          exact ⟨⟨.slice none 0 0, by rw [HBAD.out]; rfl, fun h => absurd (HBAD.out.symm.trans h) (by simp)⟩, hb4⟩
        | some n =>
          have hokk := Lib.hid (show okF l 2 = true by rw [hokd]; rfl)
          have CA := Lib.hid ca; clear ca hokd hok0
          go_wp2_with fail
          refine (CA.out _ (HL.out.below hbel)).mono ?_
          rintro e w4 ⟨⟨v, rfl, rfl⟩, hw4⟩
          have hb4 := ball hbel hw4
          have hs4 := hb4.size
          have HO4 := Lib.hid (row_below HO.out hw4)
          have HS4 := Lib.hid (HS.out.belowAll hw4)
          have hgs4 := HS4.out.lt
          go_wp2_with (at_builtin; refine wpList_append_lies _ rfl _ _ 55 rfl w.heap.size 3 i0 _ 1 8 Tryd.underlying55 hi0 hz0 hz1 hz2 rfl (by omega) _ 2 (ints (tab 2 (numF l))) rfl (HO4.out.alloc _) ⟨w4.heap.size, 0, none⟩ 1 1 [.int .i64 n] rfl rfl (World.news_of_block (cs := #[.int .i64 n]) (t := 3) (fr := (0, 0)) (heap_alloc_new _ _)) (by simp [Value.oneCell']) (by omega) (by unfold maxLen; omega) (by omega) (by simp; omega) (w4.heap.size + 1) (by simp) ?_; intro gg gcap w5 hown5 hgrow hat5 hlt5)
          have hb5 := appB hb4 hs4 HO4.out hgrow
          have HS5 := Lib.hid ((HS4.out.alloc (.cells #[.int .i64 n] 3)).grown hgrow HB.out)
          have hgg : gg ≠ gs := by
            rcases hat5 with h | h
            · intro he; subst he; exact HB.out h
            · omega
          go_roundw
          case rel =>
            refine ⟨3, by omega, by go_num, rfl, ⟨rowC hown5 rfl (by rw [ints_one n, ints_append]; congr 1; rw [show n = numF l 2 from HN.out.symm]; rfl), by simp [Value.ownBlock]; exact hgg⟩, HS5.out, fun j hj => ?_, hb5⟩
            by_cases hjk : j = 2
            · subst hjk; exact hokk.out
            · exact HK.out j (by omega)
          case measure => simp [intOf]

end Go.Proofs.YtbkfgaibcoekgaaDoor
