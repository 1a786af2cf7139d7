/-
  The text of a plane polynomial: program and reference. Printed by gen_plC.py.
-/
import Derived.Test.YtbafgmicpopnoaaGreatDoorPlQ
import Derived.Test.YtbafgmicpopnoaaGreatDoorParts
import Derived.Test.YtbafgmicpopnoaaGreatDoorCeD
import Derived.Deep.RegionHeld3
namespace Go.Proofs.YtbafgmicpopnoaaGreatDoor
open Go.RowKit

theorem add_strP (a b : ByteArray) (h : a.size + b.size ≤ 9223372036854775807) (w : World) : (Op.stringOp .add a b).run Tryz.prog w = .ok (.string (a ++ b)) w := run_string_add_sum w a b h
theorem bytesPl (A B : List UInt8) : (⟨A.toArray⟩ : ByteArray) ++ ⟨B.toArray⟩ = ⟨(A ++ B).toArray⟩ := by
  apply ByteArray.ext
  simp
theorem bytesT (T A B C : List UInt8) : (⟨T.toArray⟩ : ByteArray) ++ ((⟨A.toArray⟩ : ByteArray) ++ ⟨#[58]⟩ ++ ⟨B.toArray⟩ ++ ⟨#[44]⟩ ++ ⟨C.toArray⟩ ++ ⟨#[59]⟩) = ⟨(T ++ (A ++ [58] ++ B ++ [44] ++ C ++ [59])).toArray⟩ := by
  rw [← bytesPl, ← bytesPl, ← bytesPl, ← bytesPl, ← bytesPl, ← bytesPl]
theorem plnTxt_append : ∀ (l m : List Tm), plnTxt (l ++ m) = plnTxt l ++ plnTxt m
  | [], m => rfl
  | p :: l, m => by rw [List.cons_append, plnTxt, plnTxt, plnTxt_append l m]; simp
theorem take_snocT (l : List Tm) (k : Nat) (h : k < l.length) : l.take (k + 1) = l.take k ++ [l.getD k default] := by
  rw [List.take_succ_eq_append_getElem h, List.getD_eq_getElem?_getD, List.getElem?_eq_getElem h, Option.getD_some]
theorem plnTxt_snoc {l : List Tm} {k : Nat} (hk : k < l.length) : plnTxt (l.take (k + 1)) = plnTxt (l.take k) ++ (Lib.itoa (l.getD k default).c ++ [58] ++ Lib.itoa (l.getD k default).i ++ [44] ++ Lib.itoa (l.getD k default).j ++ [59]) := by
  rw [take_snocT l k hk, plnTxt_append]
  congr 1
  unfold plnTxt tmTxt plnTxt
  simp
theorem plnTxt_len : ∀ (l : List Tm), (∀ p ∈ l, termB p = true) → (plnTxt l).length ≤ 36 * l.length
  | [], _ => by simp [plnTxt]
  | p :: l, h => by
    have h1 := plnTxt_len l (fun q hq => h q (List.mem_cons_of_mem _ hq))
    have hb := termB_t (h p (by simp))
    have l1 := itoa_lenW (n := p.c) (by omega)
    have l2 := itoa_lenW (n := p.i) (by omega)
    have l3 := itoa_lenW (n := p.j) (by omega)
    unfold plnTxt tmTxt
    simp only [List.length_append, List.length_cons]
    omega
theorem getD_memT {l : List Tm} {k : Nat} (hk : k < l.length) : l.getD k default ∈ l := by
  rw [List.getD_eq_getElem?_getD, List.getElem?_eq_getElem hk]
  exact List.getElem_mem hk
theorem l1Num_i (n : Int) (w : World) (h0 : 0 ≤ n) (h1 : n ≤ 1000000000) :
    Calls Tryz.prog 70 #[.int .i64 n] w fun e w' => e = .returned (strV (Lib.itoa n)) ∧ Below w.heap.size w w' := by
  obtain ⟨u, rfl⟩ : ∃ u : Nat, n = u := ⟨n.toNat, by omega⟩
  have h := l1Num_c u (by omega) w
  rw [itoa_pos (by omega), show ((u : Int)).toNat = u by omega]
  exact h

set_option maxHeartbeats 3200000 in
set_option maxRecDepth 100000 in
theorem planeText_c (ad : Option Addr) (cap : Nat) (l : List Tm) (w : World) (hr : RdT w ad l) (hl : l.length ≤ 10000) (hp : ∀ p ∈ l, termB p = true) (hL : LaidS w) :
    Calls Tryz.prog 43 #[.slice ad l.length cap] w fun e w' => e = .returned (strV (plnTxt l)) ∧ Below w.heap.size w w' := by
  have HR := Lib.hid hr; have HL := Lib.hid hL; clear hL; clear hr
  have hbd : ∀ k, k < l.length → (0 ≤ (l.getD k default).i ∧ (l.getD k default).i ≤ 6) ∧ (0 ≤ (l.getD k default).j ∧ (l.getD k default).j ≤ 6) ∧ -1000000 ≤ (l.getD k default).c ∧ (l.getD k default).c ≤ 1000000 := fun k hk => by
    have := termB_t (hp _ (getD_memT hk))
    omega
  have htl : ∀ k, k ≤ l.length → (plnTxt (l.take k)).length ≤ 36 * k := fun k hk => by
    have := plnTxt_len (l.take k) (fun p h => hp p (List.mem_of_mem_take h))
    rw [List.length_take] at this
    omega
  have hfin : plnTxt (l.take l.length) = plnTxt l := by rw [List.take_length]
  have HFIN := Lib.hid hfin
  have HSN := Lib.hid (fun k (hk : k < l.length) => plnTxt_snoc hk)
  obtain ⟨F, hF⟩ : ∃ F : Nat → List UInt8, (fun k => plnTxt (l.take k)) = F := ⟨_, rfl⟩
  have hFk : ∀ k, plnTxt (l.take k) = F k := fun k => by rw [← hF]
  simp only [hFk] at htl
  have HFK := Lib.hid hFk
  have hF0 : F 0 = [] := by rw [← hF]; rfl
  have HF0 := Lib.hid hF0
  clear hp hfin hF hFk hF0
  unfold strV
  go_enter Tryz.func43, Tryz.ntmps43
  go_wp2_with fail
  go_loopw [3, 8] (fun s i wr => ∃ k : Nat, k ≤ l.length ∧ i = .int .i64 k ∧ s = .string ⟨(F k).toArray⟩ ∧ Below w.heap.size w wr) (fun _ i _ => l.length - (intOf i).toNat)
  case atStart => exact ⟨0, Nat.zero_le _, rfl, by rw [HF0.out], Below.refl _ _⟩
  case round =>
    obtain ⟨wE, rfl⟩ : ∃ x : World, x = wr := ⟨_, rfl⟩
    obtain ⟨k, hk, rfl, rfl, hbel⟩ := hrel
    by_cases hlt : k < l.length
    case neg =>
      obtain rfl : k = l.length := by omega
      have hT : F l.length = plnTxt l := by rw [← HFK.out]; exact HFIN.out
      have HT := Lib.hid hT; clear hT
      go_wp2_with fail
      go_ret
      exact ⟨by rw [HT.out]; rfl, hbel⟩
    case pos =>
      obtain ⟨b, off, rfl, hb, c0, c1, c2⟩ := HR.out k hlt
      have d0 := bcell hbel hb c0
      have d1 := bcell hbel hb c1
      have d2 := bcell hbel hb c2
      clear c0 c1 c2
      have hx := hbd k hlt
      have hst := HSN.out k hlt
      have htk := htl k hk
      rw [HFK.out, HFK.out] at hst
      generalize l.getD k default = p at d0 d1 d2 hx hst
      obtain ⟨pi, pj, pc⟩ := p
      simp only at d0 d1 d2 hx hst
      have ca := fun w hL => itoa_c pc w (by omega) (by omega) hL
      have cb := fun w hL => itoa_c pi w (by omega) (by omega) hL
      have cc := fun w hL => itoa_c pj w (by omega) (by omega) hL
      have la := itoa_lenW (n := pc) (by omega)
      have lb := itoa_lenW (n := pi) (by omega)
      have lc := itoa_lenW (n := pj) (by omega)
      unfold strV at ca cb cc
      have hE := bytesT (F k) (Lib.itoa pc) (Lib.itoa pi) (Lib.itoa pj)
      rw [← hst] at hE
      have lt' : (⟨(F k).toArray⟩ : ByteArray).size ≤ 36 * k := by simpa [ByteArray.size] using htk
      have la' : (⟨(Lib.itoa pc).toArray⟩ : ByteArray).size ≤ 11 := by simpa [ByteArray.size] using la
      have lb' : (⟨(Lib.itoa pi).toArray⟩ : ByteArray).size ≤ 11 := by simpa [ByteArray.size] using lb
      have lc' : (⟨(Lib.itoa pj).toArray⟩ : ByteArray).size ≤ 11 := by simpa [ByteArray.size] using lc
      clear la lb lc htk hx hst
      obtain ⟨T', hT'⟩ : ∃ T' : ByteArray, (⟨(F (k + 1)).toArray⟩ : ByteArray) = T' := ⟨_, rfl⟩
      rw [hT'] at hE
      have HT' := Lib.hid hT'; clear hT'
      generalize (⟨(F k).toArray⟩ : ByteArray) = T at hE lt' ⊢
      generalize (⟨(Lib.itoa pc).toArray⟩ : ByteArray) = A at hE ca la'
      generalize (⟨(Lib.itoa pi).toArray⟩ : ByteArray) = B at hE cb lb'
      generalize (⟨(Lib.itoa pj).toArray⟩ : ByteArray) = C at hE cc lc'
      have z1 : (⟨#[58]⟩ : ByteArray).size = 1 := rfl
      have z2 : (⟨#[44]⟩ : ByteArray).size = 1 := rfl
      have z3 : (⟨#[59]⟩ : ByteArray).size = 1 := rfl
      have h1 := fun w => add_strP A ⟨#[58]⟩ (by simp only [z1]; omega) w
      have h2 := fun w => add_strP (A ++ ⟨#[58]⟩) B (by simp only [ByteArray.size_append, z1]; omega) w
      have h3 := fun w => add_strP (A ++ ⟨#[58]⟩ ++ B) ⟨#[44]⟩ (by simp only [ByteArray.size_append, z1, z2]; omega) w
      have h4 := fun w => add_strP (A ++ ⟨#[58]⟩ ++ B ++ ⟨#[44]⟩) C (by simp only [ByteArray.size_append, z1, z2]; omega) w
      have h5 := fun w => add_strP (A ++ ⟨#[58]⟩ ++ B ++ ⟨#[44]⟩ ++ C) ⟨#[59]⟩ (by simp only [ByteArray.size_append, z1, z2, z3]; omega) w
      have h6 := fun w => add_strP T (A ++ ⟨#[58]⟩ ++ B ++ ⟨#[44]⟩ ++ C ++ ⟨#[59]⟩) (by simp only [ByteArray.size_append, z1, z2, z3]; omega) w
      generalize A ++ ⟨#[58]⟩ ++ B ++ ⟨#[44]⟩ ++ C ++ ⟨#[59]⟩ = T5 at h5 h6 hE
      generalize A ++ ⟨#[58]⟩ ++ B ++ ⟨#[44]⟩ ++ C = T4 at h4 h5
      generalize A ++ ⟨#[58]⟩ ++ B ++ ⟨#[44]⟩ = T3 at h3 h4
      generalize A ++ ⟨#[58]⟩ ++ B = T2 at h2 h3
      generalize A ++ ⟨#[58]⟩ = T1 at h1 h2
      rw [hE] at h6
      clear la' lb' lc' lt' hE z1 z2 z3
      have CA := Lib.hid ca; have CB := Lib.hid cb; have CC := Lib.hid cc; clear ca cb cc
      go_wp2_with fail
      obtain ⟨wB, hwB⟩ : ∃ x, wE.alloc (.cells #[.int .i64 pi, .int .i64 pj, .int .i64 pc] 43) = x := ⟨_, rfl⟩
      have hEB : Below wE.heap.size wE wB := by rw [← hwB]; exact (Below.refl _ _).alloc (Nat.le_refl _) _
      have b0 : wB.cell? ⟨wE.heap.size, 0, none⟩ = some (.int .i64 pi) := by rw [← hwB]; simp [go_sem]
      have b1 : wB.cell? ⟨wE.heap.size, 1, none⟩ = some (.int .i64 pj) := by rw [← hwB]; simp [go_sem]
      have b2 : wB.cell? ⟨wE.heap.size, 2, none⟩ = some (.int .i64 pc) := by rw [← hwB]; simp [go_sem]
      have bl : wE.heap.size < wB.heap.size := by rw [← hwB]; simp
      try rw [hwB]
      clear hwB d0 d1 d2
      have hbB := ball hbel hEB
      go_region_held3 (fun w' => w'.cell? ⟨wE.heap.size, 0, none⟩ = some (.int .i64 pi) ∧ w'.cell? ⟨wE.heap.size, 1, none⟩ = some (.int .i64 pj) ∧ w'.cell? ⟨wE.heap.size, 2, none⟩ = some (.int .i64 pc)) (exact ⟨by assumption, by assumption, by assumption⟩)
        (first
          | (go_at_call 68; (with_reducible refine (CA.out _ (HL.out.below (by with_reducible (first | exact hbB | exact hbB.drew)))).mono ?_); rintro e W1 ⟨rfl, hw1⟩; have hb1 := ball (by with_reducible (first | exact hbB | exact hbB.drew)) hw1; have m0 := bcell hw1 bl b0; have m1 := bcell hw1 bl b1; have m2 := bcell hw1 bl b2; have n1 := Nat.lt_of_lt_of_le bl hw1.size)
          | (go_at_call 68; (with_reducible refine (CB.out _ (HL.out.below hb1)).mono ?_); rintro e W2 ⟨rfl, hw2⟩; have hb2 := ball hb1 hw2; have m3 := bcell hw2 n1 m0; have m4 := bcell hw2 n1 m1; have m5 := bcell hw2 n1 m2; have n2 := Nat.lt_of_lt_of_le n1 hw2.size)
          | (go_at_call 68; (with_reducible refine (CC.out _ (HL.out.below hb2)).mono ?_); rintro e W3 ⟨rfl, hw3⟩; have hb3 := ball hb2 hw3; have m6 := bcell hw3 n2 m3; have m7 := bcell hw3 n2 m4; have m8 := bcell hw3 n2 m5))
      go_wp2_with fail
      go_roundw
      case rel => exact ⟨k + 1, by omega, by go_num, by rw [HT'.out], hb3⟩
      case measure => simp [intOf]; omega

set_option maxHeartbeats 3200000 in
set_option maxRecDepth 100000 in
theorem plText_c (ad : Option Addr) (cap : Nat) (l : List Tm) (w : World) (hr : RdT w ad l) (hl : l.length ≤ 10000) (hp : ∀ p ∈ l, termB p = true) :
    Calls Tryz.prog 44 #[.slice ad l.length cap] w fun e w' => e = .returned (strV (plnTxt l)) ∧ Below w.heap.size w w' := by
  have HR := Lib.hid hr;  clear hr
  have hbd : ∀ k, k < l.length → (0 ≤ (l.getD k default).i ∧ (l.getD k default).i ≤ 6) ∧ (0 ≤ (l.getD k default).j ∧ (l.getD k default).j ≤ 6) ∧ -1000000 ≤ (l.getD k default).c ∧ (l.getD k default).c ≤ 1000000 := fun k hk => by
    have := termB_t (hp _ (getD_memT hk))
    omega
  have htl : ∀ k, k ≤ l.length → (plnTxt (l.take k)).length ≤ 36 * k := fun k hk => by
    have := plnTxt_len (l.take k) (fun p h => hp p (List.mem_of_mem_take h))
    rw [List.length_take] at this
    omega
  have hfin : plnTxt (l.take l.length) = plnTxt l := by rw [List.take_length]
  have HFIN := Lib.hid hfin
  have HSN := Lib.hid (fun k (hk : k < l.length) => plnTxt_snoc hk)
  obtain ⟨F, hF⟩ : ∃ F : Nat → List UInt8, (fun k => plnTxt (l.take k)) = F := ⟨_, rfl⟩
  have hFk : ∀ k, plnTxt (l.take k) = F k := fun k => by rw [← hF]
  simp only [hFk] at htl
  have HFK := Lib.hid hFk
  have hF0 : F 0 = [] := by rw [← hF]; rfl
  have HF0 := Lib.hid hF0
  clear hp hfin hF hFk hF0
  unfold strV
  go_enter Tryz.func44, Tryz.ntmps44
  go_wp2_with fail
  go_loopw [3, 8] (fun s i wr => ∃ k : Nat, k ≤ l.length ∧ i = .int .i64 k ∧ s = .string ⟨(F k).toArray⟩ ∧ Below w.heap.size w wr) (fun _ i _ => l.length - (intOf i).toNat)
  case atStart => exact ⟨0, Nat.zero_le _, rfl, by rw [HF0.out], Below.refl _ _⟩
  case round =>
    obtain ⟨wE, rfl⟩ : ∃ x : World, x = wr := ⟨_, rfl⟩
    obtain ⟨k, hk, rfl, rfl, hbel⟩ := hrel
    by_cases hlt : k < l.length
    case neg =>
      obtain rfl : k = l.length := by omega
      have hT : F l.length = plnTxt l := by rw [← HFK.out]; exact HFIN.out
      have HT := Lib.hid hT; clear hT
      go_wp2_with fail
      go_ret
      exact ⟨by rw [HT.out]; rfl, hbel⟩
    case pos =>
      obtain ⟨b, off, rfl, hb, c0, c1, c2⟩ := HR.out k hlt
      have d0 := bcell hbel hb c0
      have d1 := bcell hbel hb c1
      have d2 := bcell hbel hb c2
      clear c0 c1 c2
      have hx := hbd k hlt
      have hst := HSN.out k hlt
      have htk := htl k hk
      rw [HFK.out, HFK.out] at hst
      generalize l.getD k default = p at d0 d1 d2 hx hst
      obtain ⟨pi, pj, pc⟩ := p
      simp only at d0 d1 d2 hx hst
      have ca := fun w => l1Int_c pc w (by omega) (by omega)
      have cb := fun w => l1Num_i pi w (by omega) (by omega)
      have cc := fun w => l1Num_i pj w (by omega) (by omega)
      have la := itoa_lenW (n := pc) (by omega)
      have lb := itoa_lenW (n := pi) (by omega)
      have lc := itoa_lenW (n := pj) (by omega)
      unfold strV at ca cb cc
      have hE := bytesT (F k) (Lib.itoa pc) (Lib.itoa pi) (Lib.itoa pj)
      rw [← hst] at hE
      have lt' : (⟨(F k).toArray⟩ : ByteArray).size ≤ 36 * k := by simpa [ByteArray.size] using htk
      have la' : (⟨(Lib.itoa pc).toArray⟩ : ByteArray).size ≤ 11 := by simpa [ByteArray.size] using la
      have lb' : (⟨(Lib.itoa pi).toArray⟩ : ByteArray).size ≤ 11 := by simpa [ByteArray.size] using lb
      have lc' : (⟨(Lib.itoa pj).toArray⟩ : ByteArray).size ≤ 11 := by simpa [ByteArray.size] using lc
      clear la lb lc htk hx hst
      obtain ⟨T', hT'⟩ : ∃ T' : ByteArray, (⟨(F (k + 1)).toArray⟩ : ByteArray) = T' := ⟨_, rfl⟩
      rw [hT'] at hE
      have HT' := Lib.hid hT'; clear hT'
      generalize (⟨(F k).toArray⟩ : ByteArray) = T at hE lt' ⊢
      generalize (⟨(Lib.itoa pc).toArray⟩ : ByteArray) = A at hE ca la'
      generalize (⟨(Lib.itoa pi).toArray⟩ : ByteArray) = B at hE cb lb'
      generalize (⟨(Lib.itoa pj).toArray⟩ : ByteArray) = C at hE cc lc'
      have z1 : (⟨#[58]⟩ : ByteArray).size = 1 := rfl
      have z2 : (⟨#[44]⟩ : ByteArray).size = 1 := rfl
      have z3 : (⟨#[59]⟩ : ByteArray).size = 1 := rfl
      have h1 := fun w => add_strP A ⟨#[58]⟩ (by simp only [z1]; omega) w
      have h2 := fun w => add_strP (A ++ ⟨#[58]⟩) B (by simp only [ByteArray.size_append, z1]; omega) w
      have h3 := fun w => add_strP (A ++ ⟨#[58]⟩ ++ B) ⟨#[44]⟩ (by simp only [ByteArray.size_append, z1, z2]; omega) w
      have h4 := fun w => add_strP (A ++ ⟨#[58]⟩ ++ B ++ ⟨#[44]⟩) C (by simp only [ByteArray.size_append, z1, z2]; omega) w
      have h5 := fun w => add_strP (A ++ ⟨#[58]⟩ ++ B ++ ⟨#[44]⟩ ++ C) ⟨#[59]⟩ (by simp only [ByteArray.size_append, z1, z2, z3]; omega) w
      have h6 := fun w => add_strP T (A ++ ⟨#[58]⟩ ++ B ++ ⟨#[44]⟩ ++ C ++ ⟨#[59]⟩) (by simp only [ByteArray.size_append, z1, z2, z3]; omega) w
      generalize A ++ ⟨#[58]⟩ ++ B ++ ⟨#[44]⟩ ++ C ++ ⟨#[59]⟩ = T5 at h5 h6 hE
      generalize A ++ ⟨#[58]⟩ ++ B ++ ⟨#[44]⟩ ++ C = T4 at h4 h5
      generalize A ++ ⟨#[58]⟩ ++ B ++ ⟨#[44]⟩ = T3 at h3 h4
      generalize A ++ ⟨#[58]⟩ ++ B = T2 at h2 h3
      generalize A ++ ⟨#[58]⟩ = T1 at h1 h2
      rw [hE] at h6
      clear la' lb' lc' lt' hE z1 z2 z3
      have CA := Lib.hid ca; have CB := Lib.hid cb; have CC := Lib.hid cc; clear ca cb cc
      go_wp2_with fail
      obtain ⟨wB, hwB⟩ : ∃ x, wE.alloc (.cells #[.int .i64 pi, .int .i64 pj, .int .i64 pc] 43) = x := ⟨_, rfl⟩
      have hEB : Below wE.heap.size wE wB := by rw [← hwB]; exact (Below.refl _ _).alloc (Nat.le_refl _) _
      have b0 : wB.cell? ⟨wE.heap.size, 0, none⟩ = some (.int .i64 pi) := by rw [← hwB]; simp [go_sem]
      have b1 : wB.cell? ⟨wE.heap.size, 1, none⟩ = some (.int .i64 pj) := by rw [← hwB]; simp [go_sem]
      have b2 : wB.cell? ⟨wE.heap.size, 2, none⟩ = some (.int .i64 pc) := by rw [← hwB]; simp [go_sem]
      have bl : wE.heap.size < wB.heap.size := by rw [← hwB]; simp
      try rw [hwB]
      clear hwB d0 d1 d2
      have hbB := ball hbel hEB
      go_region_held3 (fun w' => w'.cell? ⟨wE.heap.size, 0, none⟩ = some (.int .i64 pi) ∧ w'.cell? ⟨wE.heap.size, 1, none⟩ = some (.int .i64 pj) ∧ w'.cell? ⟨wE.heap.size, 2, none⟩ = some (.int .i64 pc)) (exact ⟨by assumption, by assumption, by assumption⟩)
        (first
          | (go_at_call 69; (with_reducible refine (CA.out _).mono ?_); rintro e W1 ⟨rfl, hw1⟩; have hb1 := ball (by with_reducible (first | exact hbB | exact hbB.drew)) hw1; have m0 := bcell hw1 bl b0; have m1 := bcell hw1 bl b1; have m2 := bcell hw1 bl b2; have n1 := Nat.lt_of_lt_of_le bl hw1.size)
          | (go_at_call 70; (with_reducible refine (CB.out _).mono ?_); rintro e W2 ⟨rfl, hw2⟩; have hb2 := ball hb1 hw2; have m3 := bcell hw2 n1 m0; have m4 := bcell hw2 n1 m1; have m5 := bcell hw2 n1 m2; have n2 := Nat.lt_of_lt_of_le n1 hw2.size)
          | (go_at_call 70; (with_reducible refine (CC.out _).mono ?_); rintro e W3 ⟨rfl, hw3⟩; have hb3 := ball hb2 hw3; have m6 := bcell hw3 n2 m3; have m7 := bcell hw3 n2 m4; have m8 := bcell hw3 n2 m5))
      go_wp2_with fail
      go_roundw
      case rel => exact ⟨k + 1, by omega, by go_num, by rw [HT'.out], hb3⟩
      case measure => simp [intOf]; omega

def ptxO (l : List Tm) : List UInt8 := if planeB l = true then plnTxt l else []

set_option maxHeartbeats 800000 in
theorem iPlaneText_c (ad : Option Addr) (cap : Nat) (l : List Tm) (w : World) (hr : RdT w ad l) (hl : l.length ≤ 1048576) (hL : LaidS w) :
    Calls Tryz.prog 19 #[.slice ad l.length cap] w fun e w' => e = .returned (.tuple #[strV (ptxO l), .bool (planeB l)]) ∧ Below w.heap.size w w' := by
  have c1 := Lib.hid (isPlane_c ad cap l w hr hl)
  have HR := Lib.hid hr; have HL := Lib.hid hL; clear hL; clear hr
  unfold ptxO
  cases hu : planeB l
  case false =>
    rw [hu] at c1
    rw [if_neg (by simp)]
    clear hu
    unfold strV
    go_enter Tryz.func19, Tryz.ntmps19
    go_wp2_with fail
    refine c1.out.mono ?_
    rintro e w1 ⟨rfl, hw1⟩
    go_wp2_with fail
    go_ret2
    exact ⟨rfl, hw1⟩
  case true =>
    rw [hu] at c1
    rw [if_pos rfl]
    have hle := (plane_len hu).2
    have ce := Lib.hid (fun w hr hL => planeText_c ad cap l w hr (by omega) (plane_term hu) hL)
    clear hu hle
    generalize plnTxt l = Y at ce ⊢
    unfold strV at *
    go_enter Tryz.func19, Tryz.ntmps19
    go_wp2_with fail
    refine c1.out.mono ?_
    rintro e w1 ⟨rfl, hw1⟩
    have HR1 := Lib.hid (HR.out.below hw1)
    go_wp2_with fail
    refine (ce.out _ HR1.out (HL.out.below hw1)).mono ?_
    rintro e w2 ⟨rfl, hw2⟩
    go_wp2_with fail
    go_ret2
    exact ⟨rfl, ball hw1 hw2⟩

set_option maxHeartbeats 800000 in
theorem sPlaneText_c (ad : Option Addr) (cap : Nat) (l : List Tm) (w : World) (hr : RdT w ad l) (hl : l.length ≤ 1048576) :
    Calls Tryz.prog 20 #[.slice ad l.length cap] w fun e w' => e = .returned (.tuple #[strV (ptxO l), .bool (planeB l)]) ∧ Below w.heap.size w w' := by
  have c1 := Lib.hid (plGood_c ad cap l w hr hl)
  have HR := Lib.hid hr;  clear hr
  unfold ptxO
  cases hu : planeB l
  case false =>
    rw [hu] at c1
    rw [if_neg (by simp)]
    clear hu
    unfold strV
    go_enter Tryz.func20, Tryz.ntmps20
    go_wp2_with fail
    refine c1.out.mono ?_
    rintro e w1 ⟨rfl, hw1⟩
    go_wp2_with fail
    go_ret2
    exact ⟨rfl, hw1⟩
  case true =>
    rw [hu] at c1
    rw [if_pos rfl]
    have hle := (plane_len hu).2
    have ce := Lib.hid (fun w hr => plText_c ad cap l w hr (by omega) (plane_term hu))
    clear hu hle
    generalize plnTxt l = Y at ce ⊢
    unfold strV at *
    go_enter Tryz.func20, Tryz.ntmps20
    go_wp2_with fail
    refine c1.out.mono ?_
    rintro e w1 ⟨rfl, hw1⟩
    have HR1 := Lib.hid (HR.out.below hw1)
    go_wp2_with fail
    refine (ce.out _ HR1.out).mono ?_
    rintro e w2 ⟨rfl, hw2⟩
    go_wp2_with fail
    go_ret2
    exact ⟨rfl, ball hw1 hw2⟩

end Go.Proofs.YtbafgmicpopnoaaGreatDoor
