/-
  The roots' texts: program and reference. Printed by gen_rtX.py.
-/
import Derived.Test.YthkgdiicldiahaaDoorRtT
namespace Go.Proofs.YthkgdiicldiahaaDoor
open Go.RowKit

def rootTxt (r : Rt) : List UInt8 := frTxt r.f ++ 42 :: (Lib.itoa r.t ++ [59])
def textP (l : List Rt) : List UInt8 := l.flatMap rootTxt
theorem textP_take {l : List Rt} {j : Nat} (h : j < l.length) : textP (l.take (j + 1)) = textP (l.take j) ++ rootTxt (l.getD j Rt.z) := by
  unfold textP
  rw [List.take_succ_eq_append_getElem h, List.flatMap_append, List.getD_eq_getElem?_getD, List.getElem?_eq_getElem h]
  simp
/-- What is known of the roots. -/
theorem root_facts {p : List Int} (hp : polyB p = true) : (rootsP p).length ≤ 12 ∧ ∀ j, j < (rootsP p).length → frB ((rootsP p).getD j Rt.z).f = true ∧ 1 ≤ ((rootsP p).getD j Rt.z).t ∧ ((rootsP p).getD j Rt.z).t ≤ 13 := by
  obtain ⟨h1, h13, hc, hs⟩ := cor_facts hp
  have hl := rootsP_len p
  have hpl := (polyB_t hp).1
  refine ⟨by omega, fun j hj => ?_⟩
  have h := hs ((corP p).length - 2 - j) (by omega)
  rw [show (corP p).length - 2 - ((corP p).length - 2 - j) = j by omega] at h
  obtain ⟨h4, h5⟩ := h
  have a := hc ((corP p).length - 2 - j) (by omega)
  have b := hc ((corP p).length - 2 - j + 1) (by omega)
  rw [h5]
  exact ⟨root_good h4 (by omega) a.2.2 b.2.2, show 1 ≤ ((((corP p).getD ((corP p).length - 2 - j + 1) 0 : Nat) : Int) - (((corP p).getD ((corP p).length - 2 - j) 0 : Nat) : Int)) by omega, show ((((corP p).getD ((corP p).length - 2 - j + 1) 0 : Nat) : Int) - (((corP p).getD ((corP p).length - 2 - j) 0 : Nat) : Int)) ≤ 13 by omega⟩
theorem rootTxt_len {r : Rt} (h : frB r.f = true) (ht : 1 ≤ r.t ∧ r.t ≤ 13) : (frTxt r.f).length ≤ 23 ∧ (Lib.itoa r.t).length ≤ 11 ∧ (rootTxt r).length ≤ 40 := by
  have h1 := frTxt_len h
  have h2 := itoa_lenW (n := r.t) (by omega)
  refine ⟨h1, h2, ?_⟩
  unfold rootTxt
  simp
  omega
theorem textP_len {p : List Int} (hp : polyB p = true) : ∀ j, j ≤ (rootsP p).length → (textP ((rootsP p).take j)).length ≤ 40 * j
  | 0, _ => by simp [textP]
  | j + 1, hj => by
    have ih := textP_len hp j (by omega)
    have hf := (root_facts hp).2 j (by omega)
    have := (rootTxt_len hf.1 hf.2).2.2
    rw [textP_take (by omega), List.length_append]
    omega
theorem bytesR (s A D : List UInt8) : (⟨s.toArray⟩ : ByteArray) ++ ((⟨A.toArray⟩ : ByteArray) ++ ⟨#[42]⟩ ++ ⟨D.toArray⟩ ++ ⟨#[59]⟩) = ⟨(s ++ (A ++ 42 :: (D ++ [59]))).toArray⟩ := by
  apply ByteArray.ext
  simp
set_option maxHeartbeats 3200000 in
set_option maxRecDepth 100000 in
theorem iRootsText_c (ad : Option Addr) (cap : Nat) (p : List Int) (w : World) (hr : RdI w ad p) (hl : p.length ≤ 1048576) (hL : LaidT w) :
    Calls Tryd.prog 9 #[.slice ad p.length cap] w fun e w' => e = .returned (.tuple #[.string ⟨(if polyB p = true then textP (rootsP p) else []).toArray⟩, .bool (polyB p)]) ∧ Below w.heap.size w w' := by
  have c1 := fun w hr => isPoly_c ad cap p w hr hl
  have c3 := fun w hr hp => roots_c ad cap p w hr hp
  have hrf := fun h => root_facts (p := p) h
  have htl := fun h => textP_len (p := p) h
  have HR := Lib.hid hr; clear hr
  have HL := Lib.hid hL; clear hL
  generalize polyB p = u at c1 c3 hrf htl ⊢
  generalize rootsP p = RS at c3 hrf htl ⊢
  have C1 := Lib.hid c1; have C3 := Lib.hid c3; clear c1 c3
  cases u
  case false =>
    rw [if_neg (by simp)]
    go_enter Tryd.func9, Tryd.ntmps9
    go_wp2_with fail
    refine (C1.out _ HR.out).mono ?_
    rintro e w1 ⟨rfl, rfl⟩
    go_wp2_with fail
    go_ret2
    exact ⟨rfl, Below.refl _ _⟩
  case true =>
    rw [if_pos rfl]
    obtain ⟨hRS, hrf2⟩ := hrf rfl
    have HTL := Lib.hid (htl rfl)
    have HRF := Lib.hid hrf2; clear hrf hrf2
    obtain ⟨TT, hTT⟩ : ∃ TT : ByteArray, (⟨(textP RS).toArray⟩ : ByteArray) = TT := ⟨_, rfl⟩
    rw [hTT]
    have HTT := Lib.hid hTT; clear hTT
    go_enter Tryd.func9, Tryd.ntmps9
    go_wp2_with fail
    refine (C1.out _ HR.out).mono ?_
    rintro e w1 ⟨rfl, rfl⟩
    go_wp2_with fail
    refine (C3.out _ HR.out trivial).mono ?_
    rintro e w3 ⟨v3, rfl, hrow, hb3⟩
    obtain ⟨adR, capR, rfl, -, -⟩ := hrow.shape
    have HRD := Lib.hid hrow.rd
    obtain ⟨N, hN⟩ : ∃ N, RS.length = N := ⟨_, rfl⟩
    rw [hN] at hRS ⊢
    have HN := Lib.hid hN
    clear hrow hN
    go_wp2_with fail
    go_loopw [4, 13] (fun s i wr => ∃ (j : Nat) (Sb : ByteArray), j ≤ N ∧ i = .int .i64 j ∧ s = .string Sb ∧ Sb = ⟨(textP (RS.take j)).toArray⟩ ∧ Below w3.heap.size w3 wr) (fun _ i _ => N - (intOf i).toNat)
    case atStart => exact ⟨0, ⟨#[]⟩, Nat.zero_le _, rfl, rfl, rfl, Below.refl _ _⟩
    case round =>
      obtain ⟨j, Sb, hj, rfl, rfl, hS, hbel⟩ := hrel
      by_cases hlt : j < N
      case neg =>
        obtain rfl : j = N := by omega
        obtain rfl : Sb = TT := by rw [hS, ← HTT.out, ← HN.out, List.take_length]
        clear hS
        go_wp2_with fail
        go_ret2
        exact ⟨rfl, ball hb3 hbel⟩
      case pos =>
        have hjl : j < RS.length := by have := HN.out; omega
        have hsz := HTL.out j (by omega)
        have hst := textP_take hjl
        obtain ⟨hfg, ht1, ht2⟩ := HRF.out j hjl
        have hlen := rootTxt_len hfg ⟨ht1, ht2⟩
        obtain ⟨bR, offR, rfl, hbR, c0, c1, c2⟩ := HRD.out j hjl
        have d0 := bcell hbel (p := ⟨bR, offR + j * 3, none⟩) hbR c0
        have d1 := bcell hbel (p := ⟨bR, offR + j * 3 + 1, none⟩) hbR c1
        have d2 := bcell hbel (p := ⟨bR, offR + j * 3 + 2, none⟩) hbR c2
        generalize RS.getD j Rt.z = r at d0 d1 d2 hfg ht1 ht2 hst hlen
        obtain ⟨f, T⟩ := r
        unfold rootTxt at hst hlen
        simp only at d0 d1 d2 hfg ht1 ht2 hst hlen
        have ca := fun w (hL : LaidT w) => frText_t f w hfg hL
        have cb := fun w (hL : LaidT w) => itoaT_c T w (by omega) (by omega) hL
        obtain ⟨X, Y⟩ := f
        unfold frV strV at *
        simp only at d0 d1 d2 ca cb
        have hE := bytesR (textP (RS.take j)) (frTxt ⟨X, Y⟩) (Lib.itoa T)
        rw [← hst, ← hS] at hE
        have l0 : Sb.size ≤ 600 := by rw [hS]; simp [ByteArray.size]; omega
        have l1 : (⟨(frTxt ⟨X, Y⟩).toArray⟩ : ByteArray).size ≤ 23 := by simpa [ByteArray.size] using hlen.1
        have l2 : (⟨(Lib.itoa T).toArray⟩ : ByteArray).size ≤ 11 := by simpa [ByteArray.size] using hlen.2.1
        obtain ⟨NT, hNT⟩ : ∃ NT : ByteArray, (⟨(textP (RS.take (j + 1))).toArray⟩ : ByteArray) = NT := ⟨_, rfl⟩
        rw [hNT] at hE
        have HNT := Lib.hid hNT
        generalize (⟨(frTxt ⟨X, Y⟩).toArray⟩ : ByteArray) = A at hE ca l1
        generalize (⟨(Lib.itoa T).toArray⟩ : ByteArray) = D at hE cb l2
        have k1 := fun w => add_strF A ⟨#[42]⟩ (by simp only [sizeC]; omega) w
        have k2 := fun w => add_strF (A ++ ⟨#[42]⟩) D (by simp only [ByteArray.size_append, sizeC]; omega) w
        have k3 := fun w => add_strF (A ++ ⟨#[42]⟩ ++ D) ⟨#[59]⟩ (by simp only [ByteArray.size_append, sizeC]; omega) w
        have k4 := fun w => add_strF Sb (A ++ ⟨#[42]⟩ ++ D ++ ⟨#[59]⟩) (by simp only [ByteArray.size_append, sizeC]; omega) w
        generalize A ++ ⟨#[42]⟩ ++ D ++ ⟨#[59]⟩ = T3 at hE k3 k4
        generalize A ++ ⟨#[42]⟩ ++ D = T2 at k2 k3
        generalize A ++ ⟨#[42]⟩ = T1 at k1 k2
        generalize Sb ++ T3 = T4 at hE k4
        have HE := Lib.hid (hE.trans hNT.symm)
        have hb4 := bal_alloc (o := (.cells #[.int .i64 X, .int .i64 Y, .int .i64 T] 37)) hbel
        have o4 := Own.newA wr #[.int .i64 X, .int .i64 Y, .int .i64 T] 37 rfl
        have CA := Lib.hid ca; have CB := Lib.hid cb
        clear ca cb c0 c1 c2 hE hNT hst hS l0 l1 l2 hfg hlen hsz
        obtain ⟨g, hg⟩ : ∃ g, wr.heap.size = g := ⟨_, rfl⟩
        rw [hg] at o4
        go_wp2_with fail
        have x0 := o4.cell? (i := 0) rfl
        have x1 := o4.cell? (i := 1) rfl
        have x2 := o4.cell? (i := 2) rfl
        generalize hw0 : wr.alloc (.cells #[.int .i64 X, .int .i64 Y, .int .i64 T] 37) = w0 at hb4 o4 x0 x1 x2 ⊢
        clear hw0 hg d0 d1 d2
        have q0 := o4
        have HBA := Lib.hid (ball hb3 hb4)
        go_region_held3 (fun w' => w'.cell? ⟨g, 0, none⟩ = some (.int .i64 X) ∧ w'.cell? ⟨g, 1, none⟩ = some (.int .i64 Y) ∧ w'.cell? ⟨g, 2, none⟩ = some (.int .i64 T)) (exact ⟨by assumption, by assumption, by assumption⟩)
          (first
            | (go_at_call 28; (with_reducible refine (CA.out _ (HL.out.below (by with_reducible (first | exact HBA.out | exact HBA.out.drew)))).mono ?_); rintro e W1 ⟨rfl, hw1⟩; have hb5 : Below w3.heap.size w3 W1 := ball (by with_reducible (first | exact hb4 | exact hb4.drew)) hw1; have q1 : Own W1 g _ _ := Own.belowAll (by exact q0) hw1; have x10 := q1.cell? (i := 0) rfl; have x11 := q1.cell? (i := 1) rfl; have x12 := q1.cell? (i := 2) rfl; have HBB := Lib.hid (ball hb3 hb5))
            | (go_at_call 29; (with_reducible refine (CB.out _ (HL.out.below (by with_reducible (first | exact HBB.out | exact HBB.out.drew)))).mono ?_); rintro e W2 ⟨rfl, hw2⟩; have hb6 : Below w3.heap.size w3 W2 := ball (by with_reducible (first | exact hb5 | exact hb5.drew)) hw2; have q2 : Own W2 g _ _ := Own.belowAll (by exact q1) hw2; have x20 := q2.cell? (i := 0) rfl; have x21 := q2.cell? (i := 1) rfl; have x22 := q2.cell? (i := 2) rfl))
        all_goals
          go_wp2_with fail
          go_roundw
          case rel => exact ⟨j + 1, _, by omega, by go_num, rfl, HE.out, hb6⟩
          case measure => simp [intOf]; omega
set_option maxHeartbeats 3200000 in
set_option maxRecDepth 100000 in
theorem sRootsText_c (ad : Option Addr) (cap : Nat) (p : List Int) (w : World) (hr : RdI w ad p) (hl : p.length ≤ 1048576) :
    Calls Tryd.prog 10 #[.slice ad p.length cap] w fun e w' => e = .returned (.tuple #[.string ⟨(if polyB p = true then textP (rootsP p) else []).toArray⟩, .bool (polyB p)]) ∧ Below w.heap.size w w' := by
  have c1 := fun w hr => poGood_c ad cap p w hr hl
  have c3 := fun w hr hp => rtRoots_c ad cap p w hr hp
  have hrf := fun h => root_facts (p := p) h
  have htl := fun h => textP_len (p := p) h
  have HR := Lib.hid hr; clear hr
  generalize polyB p = u at c1 c3 hrf htl ⊢
  generalize rootsP p = RS at c3 hrf htl ⊢
  have C1 := Lib.hid c1; have C3 := Lib.hid c3; clear c1 c3
  cases u
  case false =>
    rw [if_neg (by simp)]
    go_enter Tryd.func10, Tryd.ntmps10
    go_wp2_with fail
    refine (C1.out _ HR.out).mono ?_
    rintro e w1 ⟨rfl, rfl⟩
    go_wp2_with fail
    go_ret2
    exact ⟨rfl, Below.refl _ _⟩
  case true =>
    rw [if_pos rfl]
    obtain ⟨hRS, hrf2⟩ := hrf rfl
    have HTL := Lib.hid (htl rfl)
    have HRF := Lib.hid hrf2; clear hrf hrf2
    obtain ⟨TT, hTT⟩ : ∃ TT : ByteArray, (⟨(textP RS).toArray⟩ : ByteArray) = TT := ⟨_, rfl⟩
    rw [hTT]
    have HTT := Lib.hid hTT; clear hTT
    go_enter Tryd.func10, Tryd.ntmps10
    go_wp2_with fail
    refine (C1.out _ HR.out).mono ?_
    rintro e w1 ⟨rfl, rfl⟩
    go_wp2_with fail
    refine (C3.out _ HR.out trivial).mono ?_
    rintro e w3 ⟨v3, rfl, hrow, hb3⟩
    obtain ⟨adR, capR, rfl, -, -⟩ := hrow.shape
    have HRD := Lib.hid hrow.rd
    obtain ⟨N, hN⟩ : ∃ N, RS.length = N := ⟨_, rfl⟩
    rw [hN] at hRS ⊢
    have HN := Lib.hid hN
    clear hrow hN
    go_wp2_with fail
    go_loopw [4, 13] (fun s i wr => ∃ (j : Nat) (Sb : ByteArray), j ≤ N ∧ i = .int .i64 j ∧ s = .string Sb ∧ Sb = ⟨(textP (RS.take j)).toArray⟩ ∧ Below w3.heap.size w3 wr) (fun _ i _ => N - (intOf i).toNat)
    case atStart => exact ⟨0, ⟨#[]⟩, Nat.zero_le _, rfl, rfl, rfl, Below.refl _ _⟩
    case round =>
      obtain ⟨j, Sb, hj, rfl, rfl, hS, hbel⟩ := hrel
      by_cases hlt : j < N
      case neg =>
        obtain rfl : j = N := by omega
        obtain rfl : Sb = TT := by rw [hS, ← HTT.out, ← HN.out, List.take_length]
        clear hS
        go_wp2_with fail
        go_ret2
        exact ⟨rfl, ball hb3 hbel⟩
      case pos =>
        have hjl : j < RS.length := by have := HN.out; omega
        have hsz := HTL.out j (by omega)
        have hst := textP_take hjl
        obtain ⟨hfg, ht1, ht2⟩ := HRF.out j hjl
        have hlen := rootTxt_len hfg ⟨ht1, ht2⟩
        obtain ⟨bR, offR, rfl, hbR, c0, c1, c2⟩ := HRD.out j hjl
        have d0 := bcell hbel (p := ⟨bR, offR + j * 3, none⟩) hbR c0
        have d1 := bcell hbel (p := ⟨bR, offR + j * 3 + 1, none⟩) hbR c1
        have d2 := bcell hbel (p := ⟨bR, offR + j * 3 + 2, none⟩) hbR c2
        generalize RS.getD j Rt.z = r at d0 d1 d2 hfg ht1 ht2 hst hlen
        obtain ⟨f, T⟩ := r
        unfold rootTxt at hst hlen
        simp only at d0 d1 d2 hfg ht1 ht2 hst hlen
        have ca := fun w => frText_s f w hfg
        have cb := (fun w => by have c := l1Num_c T.toNat (by omega) w; rw [← itoa_pos (show 0 ≤ T by omega), show ((T.toNat : Nat) : Int) = T by omega] at c; exact c : ∀ w, Calls Tryd.prog 31 #[.int .i64 T] w fun e w' => e = .returned (strV (Lib.itoa T)) ∧ Below w.heap.size w w')
        obtain ⟨X, Y⟩ := f
        unfold frV strV at *
        simp only at d0 d1 d2 ca cb
        have hE := bytesR (textP (RS.take j)) (frTxt ⟨X, Y⟩) (Lib.itoa T)
        rw [← hst, ← hS] at hE
        have l0 : Sb.size ≤ 600 := by rw [hS]; simp [ByteArray.size]; omega
        have l1 : (⟨(frTxt ⟨X, Y⟩).toArray⟩ : ByteArray).size ≤ 23 := by simpa [ByteArray.size] using hlen.1
        have l2 : (⟨(Lib.itoa T).toArray⟩ : ByteArray).size ≤ 11 := by simpa [ByteArray.size] using hlen.2.1
        obtain ⟨NT, hNT⟩ : ∃ NT : ByteArray, (⟨(textP (RS.take (j + 1))).toArray⟩ : ByteArray) = NT := ⟨_, rfl⟩
        rw [hNT] at hE
        have HNT := Lib.hid hNT
        generalize (⟨(frTxt ⟨X, Y⟩).toArray⟩ : ByteArray) = A at hE ca l1
        generalize (⟨(Lib.itoa T).toArray⟩ : ByteArray) = D at hE cb l2
        have k1 := fun w => add_strF A ⟨#[42]⟩ (by simp only [sizeC]; omega) w
        have k2 := fun w => add_strF (A ++ ⟨#[42]⟩) D (by simp only [ByteArray.size_append, sizeC]; omega) w
        have k3 := fun w => add_strF (A ++ ⟨#[42]⟩ ++ D) ⟨#[59]⟩ (by simp only [ByteArray.size_append, sizeC]; omega) w
        have k4 := fun w => add_strF Sb (A ++ ⟨#[42]⟩ ++ D ++ ⟨#[59]⟩) (by simp only [ByteArray.size_append, sizeC]; omega) w
        generalize A ++ ⟨#[42]⟩ ++ D ++ ⟨#[59]⟩ = T3 at hE k3 k4
        generalize A ++ ⟨#[42]⟩ ++ D = T2 at k2 k3
        generalize A ++ ⟨#[42]⟩ = T1 at k1 k2
        generalize Sb ++ T3 = T4 at hE k4
        have HE := Lib.hid (hE.trans hNT.symm)
        have hb4 := bal_alloc (o := (.cells #[.int .i64 X, .int .i64 Y, .int .i64 T] 37)) hbel
        have o4 := Own.newA wr #[.int .i64 X, .int .i64 Y, .int .i64 T] 37 rfl
        have CA := Lib.hid ca; have CB := Lib.hid cb
        clear ca cb c0 c1 c2 hE hNT hst hS l0 l1 l2 hfg hlen hsz
        obtain ⟨g, hg⟩ : ∃ g, wr.heap.size = g := ⟨_, rfl⟩
        rw [hg] at o4
        go_wp2_with fail
        have x0 := o4.cell? (i := 0) rfl
        have x1 := o4.cell? (i := 1) rfl
        have x2 := o4.cell? (i := 2) rfl
        generalize hw0 : wr.alloc (.cells #[.int .i64 X, .int .i64 Y, .int .i64 T] 37) = w0 at hb4 o4 x0 x1 x2 ⊢
        clear hw0 hg d0 d1 d2
        have q0 := o4
        have HBA := Lib.hid (ball hb3 hb4)
        go_region_held3 (fun w' => w'.cell? ⟨g, 0, none⟩ = some (.int .i64 X) ∧ w'.cell? ⟨g, 1, none⟩ = some (.int .i64 Y) ∧ w'.cell? ⟨g, 2, none⟩ = some (.int .i64 T)) (exact ⟨by assumption, by assumption, by assumption⟩)
          (first
            | (go_at_call 30; (with_reducible refine (CA.out _).mono ?_); rintro e W1 ⟨rfl, hw1⟩; have hb5 : Below w3.heap.size w3 W1 := ball (by with_reducible (first | exact hb4 | exact hb4.drew)) hw1; have q1 : Own W1 g _ _ := Own.belowAll (by exact q0) hw1; have x10 := q1.cell? (i := 0) rfl; have x11 := q1.cell? (i := 1) rfl; have x12 := q1.cell? (i := 2) rfl; have HBB := Lib.hid (ball hb3 hb5))
            | (go_at_call 31; (with_reducible refine (CB.out _).mono ?_); rintro e W2 ⟨rfl, hw2⟩; have hb6 : Below w3.heap.size w3 W2 := ball (by with_reducible (first | exact hb5 | exact hb5.drew)) hw2; have q2 : Own W2 g _ _ := Own.belowAll (by exact q1) hw2; have x20 := q2.cell? (i := 0) rfl; have x21 := q2.cell? (i := 1) rfl; have x22 := q2.cell? (i := 2) rfl))
        all_goals
          go_wp2_with fail
          go_roundw
          case rel => exact ⟨j + 1, _, by omega, by go_num, rfl, HE.out, hb6⟩
          case measure => simp [intOf]; omega

end Go.Proofs.YthkgdiicldiahaaDoor
