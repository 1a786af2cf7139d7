/-
  Some texts of this proof in one: HuC HuD HuE HuF. Each part tells what it proves. By an AI agent.
-/
import Derived.Test.YtnapcjfemlhkmaaGreatDoorHuP
import Derived.Test.YtnapcjfemlhkmaaGreatDoorHuA
import Derived.Test.YtnapcjfemlhkmaaGreatDoorTxC

/-
  The text of a polygon: program and reference. Printed by gen_huC.py.
-/
namespace Go.Proofs.YtnapcjfemlhkmaaGreatDoor
open Go.RowKit

theorem add_strH (a b : ByteArray) (h : a.size + b.size ≤ 9223372036854775807) (w : World) : (Op.stringOp .add a b).run Tryz.prog w = .ok (.string (a ++ b)) w := run_string_add_sum w a b h
theorem bytesH (A B : List UInt8) : (⟨A.toArray⟩ : ByteArray) ++ ⟨B.toArray⟩ = ⟨(A ++ B).toArray⟩ := by
  apply ByteArray.ext
  simp
theorem bytesP (T A B : List UInt8) : (⟨T.toArray⟩ : ByteArray) ++ ((⟨A.toArray⟩ : ByteArray) ++ ⟨#[44]⟩ ++ ⟨B.toArray⟩ ++ ⟨#[59]⟩) = ⟨(T ++ (A ++ [44] ++ B ++ [59])).toArray⟩ := by
  rw [← bytesH, ← bytesH, ← bytesH, ← bytesH]
theorem polTxt_append : ∀ (l m : List Pt), polTxt (l ++ m) = polTxt l ++ polTxt m
  | [], m => rfl
  | p :: l, m => by rw [List.cons_append, polTxt, polTxt, polTxt_append l m]; simp
theorem polTxt_snoc {l : List Pt} {k : Nat} (hk : k < l.length) : polTxt (l.take (k + 1)) = polTxt (l.take k) ++ (Lib.itoa (l.getD k default).x ++ [44] ++ Lib.itoa (l.getD k default).y ++ [59]) := by
  rw [take_snoc2 l k hk, polTxt_append]
  congr 1
  unfold polTxt ptTxt polTxt
  simp
theorem polTxt_len : ∀ (l : List Pt), (∀ p ∈ l, ptB p = true) → (polTxt l).length ≤ 24 * l.length
  | [], _ => by simp [polTxt]
  | p :: l, h => by
    have h1 := polTxt_len l (fun q hq => h q (List.mem_cons_of_mem _ hq))
    have hb := ptB_bdH (h p (by simp))
    have l1 := itoa_lenW (n := p.x) (by omega)
    have l2 := itoa_lenW (n := p.y) (by omega)
    unfold polTxt ptTxt
    simp only [List.length_append, List.length_cons]
    omega
theorem getD_memP {l : List Pt} {k : Nat} (hk : k < l.length) : l.getD k default ∈ l := by
  rw [List.getD_eq_getElem?_getD, List.getElem?_eq_getElem hk]
  exact List.getElem_mem hk

set_option maxHeartbeats 3200000 in
set_option maxRecDepth 100000 in
theorem polygonText_c (ad : Option Addr) (cap : Nat) (l : List Pt) (w : World) (hr : RdP w ad l) (hl : l.length ≤ 10000) (hp : ∀ p ∈ l, ptB p = true) (hL : LaidS w) :
    Calls Tryz.prog 38 #[.slice ad l.length cap] w fun e w' => e = .returned (strV (polTxt l)) ∧ Below w.heap.size w w' := by
  have HR := Lib.hid hr; have HL := Lib.hid hL; clear hL; clear hr
  have hbd : ∀ k, k < l.length → -100 ≤ (l.getD k default).x ∧ (l.getD k default).x ≤ 100 ∧ -100 ≤ (l.getD k default).y ∧ (l.getD k default).y ≤ 100 := fun k hk => by
    have := ptB_bdH (hp _ (getD_memP hk))
    omega
  have htl : ∀ k, k ≤ l.length → (polTxt (l.take k)).length ≤ 24 * k := fun k hk => by
    have := polTxt_len (l.take k) (fun p h => hp p (List.mem_of_mem_take h))
    rw [List.length_take] at this
    omega
  have hfin : polTxt (l.take l.length) = polTxt l := by rw [List.take_length]
  have HFIN := Lib.hid hfin
  have HSN := Lib.hid (fun k (hk : k < l.length) => polTxt_snoc hk)
  obtain ⟨F, hF⟩ : ∃ F : Nat → List UInt8, (fun k => polTxt (l.take k)) = F := ⟨_, rfl⟩
  have hFk : ∀ k, polTxt (l.take k) = F k := fun k => by rw [← hF]
  simp only [hFk] at htl
  have HFK := Lib.hid hFk
  have hF0 : F 0 = [] := by rw [← hF]; rfl
  have HF0 := Lib.hid hF0
  clear hp hfin hF hFk hF0
  unfold strV
  go_enter Tryz.func38, Tryz.ntmps38
  go_wp2_with fail
  go_loopw [3, 8] (fun s i wr => ∃ k : Nat, k ≤ l.length ∧ i = .int .i64 k ∧ s = .string ⟨(F k).toArray⟩ ∧ Below w.heap.size w wr) (fun _ i _ => l.length - (intOf i).toNat)
  case atStart => exact ⟨0, Nat.zero_le _, rfl, by rw [HF0.out], Below.refl _ _⟩
  case round =>
    obtain ⟨wE, rfl⟩ : ∃ x : World, x = wr := ⟨_, rfl⟩
    obtain ⟨k, hk, rfl, rfl, hbel⟩ := hrel
    by_cases hlt : k < l.length
    case neg =>
      obtain rfl : k = l.length := by omega
      have hT : F l.length = polTxt l := by rw [← HFK.out]; exact HFIN.out
      have HT := Lib.hid hT; clear hT
      go_wp2_with fail
      go_ret
      exact ⟨by rw [HT.out]; rfl, hbel⟩
    case pos =>
      obtain ⟨b, off, rfl, hb, c0, c1⟩ := HR.out k hlt
      have d0 := bcell hbel hb c0
      have d1 := bcell hbel hb c1
      clear c0 c1
      have hx := hbd k hlt
      have hst := HSN.out k hlt
      have htk := htl k hk
      rw [HFK.out, HFK.out] at hst
      generalize l.getD k default = p at d0 d1 hx hst
      obtain ⟨px, py⟩ := p
      simp only at d0 d1 hx hst
      have ca := fun w hL => itoa_c px w (by omega) (by omega) hL
      have cb := fun w hL => itoa_c py w (by omega) (by omega) hL
      have la := itoa_lenW (n := px) (by omega)
      have lb := itoa_lenW (n := py) (by omega)
      unfold strV at ca cb
      have hE := bytesP (F k) (Lib.itoa px) (Lib.itoa py)
      rw [← hst] at hE
      have lt' : (⟨(F k).toArray⟩ : ByteArray).size ≤ 24 * k := by simpa [ByteArray.size] using htk
      have la' : (⟨(Lib.itoa px).toArray⟩ : ByteArray).size ≤ 11 := by simpa [ByteArray.size] using la
      have lb' : (⟨(Lib.itoa py).toArray⟩ : ByteArray).size ≤ 11 := by simpa [ByteArray.size] using lb
      clear la lb htk hx hst
      obtain ⟨T', hT'⟩ : ∃ T' : ByteArray, (⟨(F (k + 1)).toArray⟩ : ByteArray) = T' := ⟨_, rfl⟩
      rw [hT'] at hE
      have HT' := Lib.hid hT'; clear hT'
      generalize (⟨(F k).toArray⟩ : ByteArray) = T at hE lt' ⊢
      generalize (⟨(Lib.itoa px).toArray⟩ : ByteArray) = A at hE ca la'
      generalize (⟨(Lib.itoa py).toArray⟩ : ByteArray) = B at hE cb lb'
      have z1 : (⟨#[44]⟩ : ByteArray).size = 1 := rfl
      have z2 : (⟨#[59]⟩ : ByteArray).size = 1 := rfl
      have h1 := fun w => add_strH A ⟨#[44]⟩ (by simp only [z1]; omega) w
      have h2 := fun w => add_strH (A ++ ⟨#[44]⟩) B (by simp only [ByteArray.size_append, z1]; omega) w
      have h3 := fun w => add_strH (A ++ ⟨#[44]⟩ ++ B) ⟨#[59]⟩ (by simp only [ByteArray.size_append, z1, z2]; omega) w
      have h4 := fun w => add_strH T (A ++ ⟨#[44]⟩ ++ B ++ ⟨#[59]⟩) (by simp only [ByteArray.size_append, z1, z2]; omega) w
      generalize A ++ ⟨#[44]⟩ ++ B ++ ⟨#[59]⟩ = T3 at h3 h4 hE
      generalize A ++ ⟨#[44]⟩ ++ B = T2 at h2 h3
      generalize A ++ ⟨#[44]⟩ = T1 at h1 h2
      rw [hE] at h4
      clear la' lb' lt' hE z1 z2
      have CA := Lib.hid ca; have CB := Lib.hid cb; clear ca cb
      go_wp2_with fail
      obtain ⟨wB, hwB⟩ : ∃ x, wE.alloc (.cells #[.int .i64 px, .int .i64 py] 30) = x := ⟨_, rfl⟩
      have hEB : Below wE.heap.size wE wB := by rw [← hwB]; exact (Below.refl _ _).alloc (Nat.le_refl _) _
      have b0 : wB.cell? ⟨wE.heap.size, 0, none⟩ = some (.int .i64 px) := by rw [← hwB]; simp [go_sem]
      have b1 : wB.cell? ⟨wE.heap.size, 1, none⟩ = some (.int .i64 py) := by rw [← hwB]; simp [go_sem]
      have bl : wE.heap.size < wB.heap.size := by rw [← hwB]; simp
      rw [hwB]
      clear hwB d0 d1
      have hbB := ball hbel hEB
      go_region_held3 (fun w' => w'.cell? ⟨wE.heap.size, 0, none⟩ = some (.int .i64 px) ∧ w'.cell? ⟨wE.heap.size, 1, none⟩ = some (.int .i64 py)) (exact ⟨by assumption, by assumption⟩)
        (first
          | (go_at_call 69; (with_reducible refine (CA.out _ (HL.out.below (by with_reducible (first | exact hbB | exact hbB.drew)))).mono ?_); rintro e W1 ⟨rfl, hw1⟩; have hb1 := ball (by with_reducible (first | exact hbB | exact hbB.drew)) hw1; have m1 := bcell hw1 bl b0; have m2 := bcell hw1 bl b1; have n1 := hw1.size)
          | (go_at_call 69; (with_reducible refine (CB.out _ (HL.out.below hb1)).mono ?_); rintro e W2 ⟨rfl, hw2⟩; have hb2 := ball hb1 hw2; have m3 := bcell hw2 (Nat.lt_of_lt_of_le bl n1) m1; have m4 := bcell hw2 (Nat.lt_of_lt_of_le bl n1) m2))
      go_wp2_with fail
      go_roundw
      case rel => exact ⟨k + 1, by omega, by go_num, by rw [HT'.out], hb2⟩
      case measure => simp [intOf]; omega

set_option maxHeartbeats 3200000 in
set_option maxRecDepth 100000 in
theorem pyText_c (ad : Option Addr) (cap : Nat) (l : List Pt) (w : World) (hr : RdP w ad l) (hl : l.length ≤ 10000) (hp : ∀ p ∈ l, ptB p = true) :
    Calls Tryz.prog 39 #[.slice ad l.length cap] w fun e w' => e = .returned (strV (polTxt l)) ∧ Below w.heap.size w w' := by
  have HR := Lib.hid hr;  clear hr
  have hbd : ∀ k, k < l.length → -100 ≤ (l.getD k default).x ∧ (l.getD k default).x ≤ 100 ∧ -100 ≤ (l.getD k default).y ∧ (l.getD k default).y ≤ 100 := fun k hk => by
    have := ptB_bdH (hp _ (getD_memP hk))
    omega
  have htl : ∀ k, k ≤ l.length → (polTxt (l.take k)).length ≤ 24 * k := fun k hk => by
    have := polTxt_len (l.take k) (fun p h => hp p (List.mem_of_mem_take h))
    rw [List.length_take] at this
    omega
  have hfin : polTxt (l.take l.length) = polTxt l := by rw [List.take_length]
  have HFIN := Lib.hid hfin
  have HSN := Lib.hid (fun k (hk : k < l.length) => polTxt_snoc hk)
  obtain ⟨F, hF⟩ : ∃ F : Nat → List UInt8, (fun k => polTxt (l.take k)) = F := ⟨_, rfl⟩
  have hFk : ∀ k, polTxt (l.take k) = F k := fun k => by rw [← hF]
  simp only [hFk] at htl
  have HFK := Lib.hid hFk
  have hF0 : F 0 = [] := by rw [← hF]; rfl
  have HF0 := Lib.hid hF0
  clear hp hfin hF hFk hF0
  unfold strV
  go_enter Tryz.func39, Tryz.ntmps39
  go_wp2_with fail
  go_loopw [3, 8] (fun s i wr => ∃ k : Nat, k ≤ l.length ∧ i = .int .i64 k ∧ s = .string ⟨(F k).toArray⟩ ∧ Below w.heap.size w wr) (fun _ i _ => l.length - (intOf i).toNat)
  case atStart => exact ⟨0, Nat.zero_le _, rfl, by rw [HF0.out], Below.refl _ _⟩
  case round =>
    obtain ⟨wE, rfl⟩ : ∃ x : World, x = wr := ⟨_, rfl⟩
    obtain ⟨k, hk, rfl, rfl, hbel⟩ := hrel
    by_cases hlt : k < l.length
    case neg =>
      obtain rfl : k = l.length := by omega
      have hT : F l.length = polTxt l := by rw [← HFK.out]; exact HFIN.out
      have HT := Lib.hid hT; clear hT
      go_wp2_with fail
      go_ret
      exact ⟨by rw [HT.out]; rfl, hbel⟩
    case pos =>
      obtain ⟨b, off, rfl, hb, c0, c1⟩ := HR.out k hlt
      have d0 := bcell hbel hb c0
      have d1 := bcell hbel hb c1
      clear c0 c1
      have hx := hbd k hlt
      have hst := HSN.out k hlt
      have htk := htl k hk
      rw [HFK.out, HFK.out] at hst
      generalize l.getD k default = p at d0 d1 hx hst
      obtain ⟨px, py⟩ := p
      simp only at d0 d1 hx hst
      have ca := fun w => l1Int_c px w (by omega) (by omega)
      have cb := fun w => l1Int_c py w (by omega) (by omega)
      have la := itoa_lenW (n := px) (by omega)
      have lb := itoa_lenW (n := py) (by omega)
      unfold strV at ca cb
      have hE := bytesP (F k) (Lib.itoa px) (Lib.itoa py)
      rw [← hst] at hE
      have lt' : (⟨(F k).toArray⟩ : ByteArray).size ≤ 24 * k := by simpa [ByteArray.size] using htk
      have la' : (⟨(Lib.itoa px).toArray⟩ : ByteArray).size ≤ 11 := by simpa [ByteArray.size] using la
      have lb' : (⟨(Lib.itoa py).toArray⟩ : ByteArray).size ≤ 11 := by simpa [ByteArray.size] using lb
      clear la lb htk hx hst
      obtain ⟨T', hT'⟩ : ∃ T' : ByteArray, (⟨(F (k + 1)).toArray⟩ : ByteArray) = T' := ⟨_, rfl⟩
      rw [hT'] at hE
      have HT' := Lib.hid hT'; clear hT'
      generalize (⟨(F k).toArray⟩ : ByteArray) = T at hE lt' ⊢
      generalize (⟨(Lib.itoa px).toArray⟩ : ByteArray) = A at hE ca la'
      generalize (⟨(Lib.itoa py).toArray⟩ : ByteArray) = B at hE cb lb'
      have z1 : (⟨#[44]⟩ : ByteArray).size = 1 := rfl
      have z2 : (⟨#[59]⟩ : ByteArray).size = 1 := rfl
      have h1 := fun w => add_strH A ⟨#[44]⟩ (by simp only [z1]; omega) w
      have h2 := fun w => add_strH (A ++ ⟨#[44]⟩) B (by simp only [ByteArray.size_append, z1]; omega) w
      have h3 := fun w => add_strH (A ++ ⟨#[44]⟩ ++ B) ⟨#[59]⟩ (by simp only [ByteArray.size_append, z1, z2]; omega) w
      have h4 := fun w => add_strH T (A ++ ⟨#[44]⟩ ++ B ++ ⟨#[59]⟩) (by simp only [ByteArray.size_append, z1, z2]; omega) w
      generalize A ++ ⟨#[44]⟩ ++ B ++ ⟨#[59]⟩ = T3 at h3 h4 hE
      generalize A ++ ⟨#[44]⟩ ++ B = T2 at h2 h3
      generalize A ++ ⟨#[44]⟩ = T1 at h1 h2
      rw [hE] at h4
      clear la' lb' lt' hE z1 z2
      have CA := Lib.hid ca; have CB := Lib.hid cb; clear ca cb
      go_wp2_with fail
      obtain ⟨wB, hwB⟩ : ∃ x, wE.alloc (.cells #[.int .i64 px, .int .i64 py] 30) = x := ⟨_, rfl⟩
      have hEB : Below wE.heap.size wE wB := by rw [← hwB]; exact (Below.refl _ _).alloc (Nat.le_refl _) _
      have b0 : wB.cell? ⟨wE.heap.size, 0, none⟩ = some (.int .i64 px) := by rw [← hwB]; simp [go_sem]
      have b1 : wB.cell? ⟨wE.heap.size, 1, none⟩ = some (.int .i64 py) := by rw [← hwB]; simp [go_sem]
      have bl : wE.heap.size < wB.heap.size := by rw [← hwB]; simp
      rw [hwB]
      clear hwB d0 d1
      have hbB := ball hbel hEB
      go_region_held3 (fun w' => w'.cell? ⟨wE.heap.size, 0, none⟩ = some (.int .i64 px) ∧ w'.cell? ⟨wE.heap.size, 1, none⟩ = some (.int .i64 py)) (exact ⟨by assumption, by assumption⟩)
        (first
          | (go_at_call 70; (with_reducible refine (CA.out _).mono ?_); rintro e W1 ⟨rfl, hw1⟩; have hb1 := ball (by with_reducible (first | exact hbB | exact hbB.drew)) hw1; have m1 := bcell hw1 bl b0; have m2 := bcell hw1 bl b1; have n1 := hw1.size)
          | (go_at_call 70; (with_reducible refine (CB.out _).mono ?_); rintro e W2 ⟨rfl, hw2⟩; have hb2 := ball hb1 hw2; have m3 := bcell hw2 (Nat.lt_of_lt_of_le bl n1) m1; have m4 := bcell hw2 (Nat.lt_of_lt_of_le bl n1) m2))
      go_wp2_with fail
      go_roundw
      case rel => exact ⟨k + 1, by omega, by go_num, by rw [HT'.out], hb2⟩
      case measure => simp [intOf]; omega

def txtO (l : List Pt) : List UInt8 := if polyB l = true then polTxt l else []

set_option maxHeartbeats 800000 in
theorem iPolygonText_c (ad : Option Addr) (cap : Nat) (l : List Pt) (w : World) (hr : RdP w ad l) (hl : l.length ≤ 1048576) (hL : LaidS w) :
    Calls Tryz.prog 13 #[.slice ad l.length cap] w fun e w' => e = .returned (.tuple #[strV (txtO l), .bool (polyB l)]) ∧ Below w.heap.size w w' := by
  have c1 := Lib.hid (isPolygon_c ad cap l w hr hl)
  have HR := Lib.hid hr; have HL := Lib.hid hL; clear hL; clear hr
  unfold txtO
  cases hu : polyB l
  case false =>
    rw [hu] at c1
    rw [if_neg (by simp)]
    clear hu
    unfold strV
    go_enter Tryz.func13, Tryz.ntmps13
    go_wp2_with fail
    refine c1.out.mono ?_
    rintro e w1 ⟨rfl, hw1⟩
    go_wp2_with fail
    go_ret2
    exact ⟨rfl, hw1⟩
  case true =>
    rw [hu] at c1
    rw [if_pos rfl]
    have hle := (ptsB_t (polyB_ptsH hu)).2.1
    have ce := Lib.hid (fun w hr hL => polygonText_c ad cap l w hr (by omega) (polyB_all hu) hL)
    clear hu hle
    generalize polTxt l = Y at ce ⊢
    unfold strV at *
    go_enter Tryz.func13, Tryz.ntmps13
    go_wp2_with fail
    refine c1.out.mono ?_
    rintro e w1 ⟨rfl, hw1⟩
    have HR1 := Lib.hid (HR.out.below hw1)
    go_wp2_with fail
    refine (ce.out _ HR1.out (HL.out.below hw1)).mono ?_
    rintro e w2 ⟨rfl, hw2⟩
    go_wp2_with fail
    go_ret2
    exact ⟨rfl, ball hw1 hw2⟩

set_option maxHeartbeats 800000 in
theorem sPolygonText_c (ad : Option Addr) (cap : Nat) (l : List Pt) (w : World) (hr : RdP w ad l) (hl : l.length ≤ 1048576) :
    Calls Tryz.prog 14 #[.slice ad l.length cap] w fun e w' => e = .returned (.tuple #[strV (txtO l), .bool (polyB l)]) ∧ Below w.heap.size w w' := by
  have c1 := Lib.hid (pyGood_c ad cap l w hr hl)
  have HR := Lib.hid hr;  clear hr
  unfold txtO
  cases hu : polyB l
  case false =>
    rw [hu] at c1
    rw [if_neg (by simp)]
    clear hu
    unfold strV
    go_enter Tryz.func14, Tryz.ntmps14
    go_wp2_with fail
    refine c1.out.mono ?_
    rintro e w1 ⟨rfl, hw1⟩
    go_wp2_with fail
    go_ret2
    exact ⟨rfl, hw1⟩
  case true =>
    rw [hu] at c1
    rw [if_pos rfl]
    have hle := (ptsB_t (polyB_ptsH hu)).2.1
    have ce := Lib.hid (fun w hr => pyText_c ad cap l w hr (by omega) (polyB_all hu))
    clear hu hle
    generalize polTxt l = Y at ce ⊢
    unfold strV at *
    go_enter Tryz.func14, Tryz.ntmps14
    go_wp2_with fail
    refine c1.out.mono ?_
    rintro e w1 ⟨rfl, hw1⟩
    have HR1 := Lib.hid (HR.out.below hw1)
    go_wp2_with fail
    refine (ce.out _ HR1.out).mono ?_
    rintro e w2 ⟨rfl, hw2⟩
    go_wp2_with fail
    go_ret2
    exact ⟨rfl, ball hw1 hw2⟩

end Go.Proofs.YtnapcjfemlhkmaaGreatDoor

/-
  The program's reading of a polygon. By an AI agent.
-/
namespace Go.Proofs.YtnapcjfemlhkmaaGreatDoor
open Go.RowKit

theorem splitB_ne (b : Nat) : ∀ l, splitB b l ≠ []
  | [] => by simp [splitB]
  | x :: l => by
    unfold splitB
    split
    · simp
    · split <;> simp
theorem splitB_len (b : Nat) : ∀ l, (splitB b l).length ≤ l.length + 1
  | [] => by simp [splitB]
  | x :: l => by
    have ih := splitB_len b l
    unfold splitB
    split
    · simp; omega
    · cases h : splitB b l with
      | nil => exact absurd h (splitB_ne b l)
      | cons p ps => rw [h] at ih; simp at ih ⊢; omega
theorem splitB_mem_len (b : Nat) : ∀ l, ∀ p ∈ splitB b l, p.length ≤ l.length
  | [], p, hp => by simp [splitB] at hp; simp [hp]
  | x :: l, p, hp => by
    have ih := splitB_mem_len b l
    unfold splitB at hp
    split at hp
    · rcases List.mem_cons.1 hp with h | h
      · simp [h]
      · have := ih p h; simp; omega
    · cases h : splitB b l with
      | nil => exact absurd h (splitB_ne b l)
      | cons q ps =>
        rw [h] at hp
        rcases List.mem_cons.1 hp with h1 | h1
        · have := ih q (by rw [h]; simp)
          subst h1; simp; omega
        · have := ih p (by rw [h]; simp [h1])
          simp; omega
theorem bytes_back (x : ByteArray) : (⟨x.toList.toArray⟩ : ByteArray) = x := by
  apply ByteArray.ext
  rw [ByteArray.toList_eq]
theorem emp_eq (l : List UInt8) : l.isEmpty = decide (l = []) := by cases l <;> simp

set_option maxHeartbeats 1600000 in
theorem parts_c (s : ByteArray) (w : World) (hs : s.size ≤ 1000000) (hL : LaidL w) :
    Calls Tryz.prog 40 #[.string s] w fun e w' => ∃ (D : List ByteArray) (cap : Nat), e = .returned (.tuple #[.slice (some ⟨w.heap.size, 0, none⟩) (D.length - 1) cap, .bool (decide ((splitB 59 s.toList).getLastD [] = []))]) ∧ Own w' w.heap.size 9 (strs D) ∧ D.map (·.toList) = splitB 59 s.toList ∧ D.length ≤ cap ∧ cap ≤ 1000001 ∧ Below w.heap.size w w' := by
  have cs := split_G s 59 w (by omega) hL
  rw [show (59 : UInt8).toNat = 59 from rfl] at cs
  clear hL
  have hlen := len_str s
  obtain ⟨l, hl⟩ : ∃ l, s.toList = l := ⟨_, rfl⟩
  rw [hl] at cs hlen ⊢
  have hne := splitB_ne 59 l
  have hsl : (splitB 59 l).length ≤ l.length + 1 := splitB_len 59 l
  obtain ⟨S, hS⟩ : ∃ S, splitB 59 l = S := ⟨_, rfl⟩
  rw [hS] at cs hne hsl ⊢
  have HNE := Lib.hid hne
  clear hne hS hl
  have CS := Lib.hid cs; clear cs
  go_enter Tryz.func40, Tryz.ntmps40
  go_wp2_with fail
  refine CS.out.mono ?_
  rintro e w1 ⟨D, rfl, rfl, hD⟩
  have hDl : D.length = S.length := by rw [← hD, List.length_map]
  have hDle : D.length ≤ 1000001 := by omega
  have hb : Below w.heap.size w (w.alloc (.cells (strs D).toArray 9)) := (Below.refl _ _).alloc (Nat.le_refl _) _
  have ho : Own (w.alloc (.cells (strs D).toArray 9)) w.heap.size 9 (strs D) := Own.newA w _ _ rfl
  obtain ⟨m, hm⟩ : ∃ m, D.length = m + 1 := ⟨D.length - 1, by have := HNE.out; have : S.length ≠ 0 := fun h => this (List.length_eq_zero_iff.1 h); omega⟩
  have hc := ho.cell? (i := m) (strs_get (by omega))
  have hlast : (S.getLastD []) = (D.getD m default).toList := by
    rw [← hD, List.getLastD_eq_getLast?, List.getLast?_eq_getElem?, List.length_map, hm, List.getElem?_map, List.getD_eq_getElem?_getD]
    simp only [Nat.add_sub_cancel]
    rw [List.getElem?_eq_getElem (by omega)]
    rfl
  obtain ⟨X, hX⟩ : ∃ X, D.getD m default = X := ⟨_, rfl⟩
  rw [hX] at hc hlast
  have hu : X.toList.isEmpty = decide (S.getLastD [] = []) := by rw [hlast, emp_eq]
  obtain ⟨u, hu2⟩ : ∃ u, decide (S.getLastD [] = []) = u := ⟨_, rfl⟩
  rw [hu2] at hu
  have HU := Lib.hid hu2
  have HO := Lib.hid ho; have HD := Lib.hid hD
  have HDL := Lib.hid hDle
  have HM := Lib.hid hm
  clear hX hlast hu2 ho hD hDl hDle hsl
  obtain ⟨q, hq⟩ : ∃ q, D.length = q := ⟨_, rfl⟩
  rw [hq] at hm
  have HQ := Lib.hid hq
  rw [hq]
  subst hm
  clear hq
  generalize w.alloc (.cells (strs D).toArray 9) = w1 at hb hc HO ⊢
  have n1 : (((m + 1 : Nat) : Int)) - 1 = (m : Int) := by omega
  have n2 : ((m : Int) + 1) - 1 = (m : Int) := by omega
  have hm6 : m ≤ 1000000 := by have := HDL.out; have := HQ.out; omega
  have p1 : IntKind.i64.wrap (m : Int) = (m : Int) := i64_small (by omega) (by omega)
  have p2 : m ≤ m + 1 := by omega
  have p3 : m < m + 1 := by omega
  go_wp2_with fail
  go_quiet (fail)
  go_wp2_with fail
  go_ret2
  exact ⟨D, m + 1, by rw [HU.out, HQ.out]; rfl, HO.out, HD.out, by have := HQ.out; omega, by have := HQ.out; omega, bdrewN hb _⟩

theorem split1_c (c : UInt8) (l : List UInt8) (g : Nat) (w : World) (hl : l.length ≤ 1000000) (hg : Own w g 9 [.string ⟨#[c]⟩]) (hL : LaidL w) :
    Calls Tryz.prog 41 #[.string ⟨l.toArray⟩, .slice (some ⟨g, 0, none⟩) 1 1] w fun e w' => (∃ v, e = .returned (.tuple #[v, .bool (swB [c] l)]) ∧ (swB [c] l = true → ∃ gi cap, v = .slice (some ⟨gi, 0, none⟩) 2 cap ∧ w.heap.size ≤ gi ∧ Own w' gi 3 [.int .i64 (swN [c] l 0), .int .i64 (swN [c] l 1)])) ∧ Below w.heap.size w w' :=
  splitWhole_c [c] l g w hl (Nat.le_refl 1) (by simp) hg hL
theorem parL_tab {l : List UInt8} {D : List ByteArray} {m : Nat} (hD : D.map (·.toList) = splitB 59 l) (hm : D.length = m + 1) :
    parL l = tab m (fun k => ptW (D.getD k default).toList) ∧ ((splitB 59 l).dropLast.all okW = true ↔ ∀ k, k < m → okW (D.getD k default).toList = true) := by
  have h1 : (splitB 59 l).dropLast = tab m (fun k => (D.getD k default).toList) := by
    rw [← hD]
    apply List.ext_getElem
    · simp [tab, hm]
    · intro i h1 h2
      have hi : i < D.length := by simp [hm] at h1; omega
      simp [tab, List.getElem_dropLast, List.getD_eq_getElem?_getD, List.getElem?_eq_getElem hi]
  unfold parL
  rw [h1]
  constructor
  · unfold tab; rw [List.map_map]; rfl
  · unfold tab
    rw [List.all_eq_true]
    constructor
    · intro h k hk
      exact h _ (List.mem_map.2 ⟨k, List.mem_range.2 hk, rfl⟩)
    · intro h x hx
      obtain ⟨k, hk, rfl⟩ := List.mem_map.1 hx
      exact h k (List.mem_range.1 hk)
theorem parB_a {l : List UInt8} (h : (splitB 59 l).dropLast.all okW = false) : parB l = false := by unfold parB; rw [h]; rfl
theorem parB_b {l : List UInt8} (h : (splitB 59 l).dropLast.all okW = true) : parB l = (decide ((splitB 59 l).getLastD [] = []) && (polyB (parL l) && decide (polTxt (parL l) = l))) := by unfold parB; rw [h]; rfl

set_option maxHeartbeats 6400000 in
set_option maxRecDepth 100000 in
theorem iParsePol_c (l : List UInt8) (w : World) (hs : l.length ≤ 10000) (hL : LaidL w) :
    Calls Tryz.prog 15 #[.string ⟨l.toArray⟩] w (HulR w (if parB l = true then parL l else []) (parB l)) := by
  have cp := parts_c ⟨l.toArray⟩ w (by simp [ByteArray.size]; omega) hL
  rw [ByteArray.toList_mk] at cp
  have hsl := splitB_len 59 l
  have HSL := Lib.hid hsl; clear hsl
  have HNE := Lib.hid (splitB_ne 59 l)
  have HT := Lib.hid (fun (D : List ByteArray) (m : Nat) => parL_tab (l := l) (D := D) (m := m))
  have HPA := Lib.hid (parB_a (l := l)); have HPB := Lib.hid (parB_b (l := l))
  obtain ⟨pb, hpb⟩ : ∃ b, parB l = b := ⟨_, rfl⟩
  obtain ⟨R, hR⟩ : ∃ R, (if pb = true then parL l else []) = R := ⟨_, rfl⟩
  rw [hpb] at HPA HPB
  rw [hpb, hR]
  have HRR := Lib.hid hR
  obtain ⟨la, hla⟩ : ∃ b, decide ((splitB 59 l).getLastD [] = []) = b := ⟨_, rfl⟩
  rw [hla] at cp HPB
  clear hpb hR hla
  have HL := Lib.hid hL; clear hL
  have CP := Lib.hid cp; clear cp
  go_enter Tryz.func15, Tryz.ntmps15
  go_wp2_with fail
  refine CP.out.mono ?_
  rintro e w1 ⟨D, cap, rfl, hown, hD, hDc, hcap, hb1⟩
  obtain ⟨m, hm⟩ : ∃ m, D.length = m + 1 := ⟨D.length - 1, by
    have h1 := congrArg List.length hD
    rw [List.length_map] at h1
    have : (splitB 59 l).length ≠ 0 := fun h => HNE.out (List.length_eq_zero_iff.1 h)
    omega⟩
  have hmb : m ≤ 10000 := by
    have h1 := congrArg List.length hD
    rw [List.length_map] at h1
    have := HSL.out
    omega
  obtain ⟨hpl, hall⟩ := HT.out D m hD hm
  have HALL := Lib.hid hall
  have hlen : ∀ k, k < m → (D.getD k default).toList.length ≤ 1000000 := fun k hk => by
    have h1 : (D.getD k default).toList ∈ splitB 59 l := by
      rw [← hD, List.getD_eq_getElem?_getD, List.getElem?_eq_getElem (by omega)]
      exact List.mem_map.2 ⟨_, List.getElem_mem _, rfl⟩
    have := splitB_mem_len 59 l _ h1
    omega
  have hcell : ∀ k, k < m → (strs D)[k]? = some (.string ⟨((D.getD k default).toList).toArray⟩) := fun k hk => by
    rw [bytes_back]; exact strs_get (by omega)
  obtain ⟨W, hW⟩ : ∃ W : Nat → List UInt8, (fun k => (D.getD k default).toList) = W := ⟨_, rfl⟩
  have hWk : ∀ k, (D.getD k default).toList = W k := fun k => by rw [← hW]
  simp only [hWk] at hlen hcell hpl HALL
  have HLEN := Lib.hid hlen; have HCELL := Lib.hid hcell
  obtain ⟨PT, hPT⟩ : ∃ PT : Nat → Pt, (fun k => ptW (W k)) = PT := ⟨_, rfl⟩
  have hPTk : ∀ k, (⟨swN [44] (W k) 0, swN [44] (W k) 1⟩ : Pt) = PT k := fun k => by rw [← hPT]; rfl
  have HPT := Lib.hid hPTk
  rw [hPT] at hpl
  have hm1 : D.length - 1 = m := by omega
  rw [hm1]
  have hbz := hb1.size
  have hgl := hown.lt
  have hrow0 : RowP (w1.alloc (.cells #[] 30)) w1.heap.size (.slice (some ⟨w1.heap.size, 0, none⟩) 0 0) [] := rowP_empty w1
  have hown2 := hown.alloc (.cells #[] 30)
  have hb2 : Below w.heap.size w (w1.alloc (.cells #[] 30)) := hb1.alloc hbz _
  have HROW := Lib.hid hrow0; have HOW := Lib.hid hown2; have HPL := Lib.hid hpl
  clear hrow0 hown2 hpl hPT hPTk hlen hcell hW hWk hown hD hall hm hm1 hDc hcap
  have hz2 : w1.heap.size ≤ (w1.alloc (.cells #[] 30)).heap.size := by simp
  go_wp2_with fail
  generalize w1.alloc (.cells #[] 30) = w2 at hb2 HROW HOW hz2 ⊢
  go_loopw [6, 19] (fun v i wr => ∃ k : Nat, k ≤ m ∧ i = .int .i64 k ∧ RowP wr w1.heap.size v (tab k PT) ∧ Own wr w.heap.size 9 (strs D) ∧ (∀ j, j < k → okW (W j) = true) ∧ Below w.heap.size w wr ∧ w1.heap.size ≤ wr.heap.size) (fun _ i _ => m - (intOf i).toNat)
  case atStart => exact ⟨0, Nat.zero_le _, rfl, HROW.out, HOW.out, fun j hj => absurd hj (by omega), hb2, hz2⟩
  case round =>
    obtain ⟨k, hk, rfl, hrow, hown, hok, hbel, hsz⟩ := hrel
    clear hb2 hz2 HROW HOW
    have hsw := hbel.size
    have HOK := Lib.hid hok; have HO := Lib.hid hown; have HR := Lib.hid hrow; clear hok hown hrow
    by_cases hlt : k < m
    case neg =>
      obtain rfl : k = m := by omega
      have hall := HALL.out.2 HOK.out
      have hpb := HPB.out hall
      rw [HPL.out] at hpb
      have hrr : (if pb = true then tab k PT else []) = R := by rw [← HPL.out]; exact HRR.out
      obtain ⟨Q, hQ⟩ : ∃ Q, tab k PT = Q := ⟨_, rfl⟩
      have hQl : Q.length = k := by rw [← hQ, tab_length]
      have hrow := HR.out
      rw [hQ] at hpb hrr hrow
      obtain ⟨ad2, cap2, rfl, hc1, hc2⟩ := hrow.shape
      have hrd := RowP.rd hrow
      have cpo := fun w hr => isPolygon_c ad2 cap2 Q w hr (by omega)
      have cpt := fun (h : polyB Q = true) w hr hL => polygonText_c ad2 cap2 Q w hr (by omega) (polyB_all h) hL
      have HQ := Lib.hid hrd
      generalize polyB Q = up at hpb cpo cpt
      generalize polTxt Q = T at hpb cpt
      unfold strV at cpt
      have hneq : (T == l) = decide (T = l) := Bool.eq_iff_iff.2 (by rw [beq_iff_eq, decide_eq_true_iff])
      generalize decide (T = l) = tb at hpb hneq
      have CPO := Lib.hid cpo; have CPT := Lib.hid cpt
      have HRR2 := Lib.hid hrr
      clear cpo cpt hrr hrow hrd hall hQ HR HRR HPB HPA HT
      have HQL := Lib.hid hQl; clear hQl
      cases la
      case false =>
        obtain rfl : pb = false := hpb
        obtain rfl : R = [] := HRR2.out.symm
        go_wp2_with fail
        go_ret2
        exact ⟨none, 0, rfl, RdP.nil _ _, hbel⟩
      case true =>
        cases up
        case false =>
          obtain rfl : pb = false := hpb
          obtain rfl : R = [] := HRR2.out.symm
          clear hneq
          go_wp2_with fail
          refine (CPO.out _ HQ.out).mono ?_
          rintro e w3 ⟨rfl, hw3⟩
          have hb3 := ball hbel hw3
          go_wp2_with fail
          go_ret2
          exact ⟨none, 0, rfl, RdP.nil _ _, hb3⟩
        case true =>
          obtain rfl : pb = tb := hpb
          cases pb
          case false =>
            obtain rfl : R = [] := HRR2.out.symm
            go_wp2_with fail
            refine (CPO.out _ HQ.out).mono ?_
            rintro e w3 ⟨rfl, hw3⟩
            have hb3 := ball hbel hw3
            have HQ3 := Lib.hid (HQ.out.below hw3)
            go_wp2_with fail
            refine (CPT.out trivial _ HQ3.out (HL.out.s.below hb3)).mono ?_
            rintro e w4 ⟨rfl, hw4⟩
            have hb4 := ball hb3 hw4
            go_wp2_with fail
            go_ret2
            exact ⟨none, 0, rfl, RdP.nil _ _, hb4⟩
          case true =>
            obtain rfl : R = Q := HRR2.out.symm
            go_wp2_with fail
            refine (CPO.out _ HQ.out).mono ?_
            rintro e w3 ⟨rfl, hw3⟩
            have hb3 := ball hbel hw3
            have HQ3 := Lib.hid (HQ.out.below hw3)
            go_wp2_with fail
            refine (CPT.out trivial _ HQ3.out (HL.out.s.below hb3)).mono ?_
            rintro e w4 ⟨rfl, hw4⟩
            have hb4 := ball hb3 hw4
            have HQ4 := Lib.hid (HQ3.out.below hw4)
            go_wp2_with fail
            go_ret2
            exact ⟨ad2, cap2, rfl, HQ4.out, hb4⟩
    case pos =>
      have hcl := HO.out.cell? (HCELL.out k hlt)
      have hwl := HLEN.out k hlt
      have hbA : Below w.heap.size w (wr.alloc (.cells #[.string ⟨#[44]⟩] 9)) := hbel.alloc hsw _
      have cs := split1_c 44 (W k) wr.heap.size (wr.alloc (.cells #[.string ⟨#[44]⟩] 9)) hwl (Own.newA wr _ _ rfl) (HL.out.below hbA)
      have hokk : okW (W k) = swB [44] (W k) := rfl
      have hpt := HPT.out k
      generalize swB [44] (W k) = u at cs hokk
      generalize swN [44] (W k) 0 = n0 at cs hpt
      generalize swN [44] (W k) 1 = n1 at cs hpt
      have CS := Lib.hid cs; have HOKK := Lib.hid hokk; have HPK := Lib.hid hpt; clear cs hokk hpt hwl
      generalize (⟨(W k).toArray⟩ : ByteArray) = WB at hcl CS
      cases u
      case false =>
        have hpf : pb = false := HPA.out (by
          cases h : (splitB 59 l).dropLast.all okW
          · rfl
          · have := HALL.out.1 h k hlt
            rw [HOKK.out] at this
            exact absurd this (by simp))
        subst hpf
        obtain rfl : R = [] := HRR.out.symm
        go_wp2_with fail
        refine CS.out.mono ?_
        rintro e w3 ⟨⟨v, rfl, -⟩, hw3⟩
        have hb3 := ball hbA hw3
        go_wp2_with fail
        go_ret2
        exact ⟨none, 0, rfl, RdP.nil _ _, hb3⟩
      case true =>
        go_wp2_with fail
        refine CS.out.mono ?_
        rintro e w3 ⟨⟨v, rfl, hv⟩, hw3⟩
        obtain ⟨gi, capi, rfl, hgi, hint⟩ := hv trivial
        have hb3 := ball hbA hw3
        have hbr : Below wr.heap.size wr w3 := ball ((Below.refl _ _).alloc (Nat.le_refl _) _) hw3
        have HR3 := Lib.hid (HR.out.below hbr)
        have HO3 := Lib.hid (HO.out.belowAll hbr)
        have d0 := hint.cell? (i := 0) rfl
        have d1 := hint.cell? (i := 1) rfl
        have hgl3 := hint.lt
        have hz3 := hb3.size
        have hz4 := hbr.size
        have hgw : wr.heap.size < gi := by simp at hgi; omega
        clear hint hgi hcl hv
        obtain ⟨ad2, cap2, rfl, hc1, hc2⟩ := HR.out.shape
        have hql : (tab k PT).length = k := tab_length _ _
        obtain ⟨Q, hQ⟩ : ∃ Q, tab k PT = Q := ⟨_, rfl⟩
        have HRQ := HR3.out
        have HRO := HR.out
        rw [hQ] at hql HRQ HRO ⊢
        have HQ := Lib.hid hQ; have HQL := Lib.hid hql; have HR4 := Lib.hid HRQ; have HR0 := Lib.hid HRO
        clear hQ hql HRQ HRO HR3 HR
        have hfar : ∀ q, (Value.slice ad2 Q.length cap2).ownBlock = some q → q < wr.heap.size := fun q e => (World.ownsRow.lt HR0.out q e).2
        have hne : (Value.slice ad2 Q.length cap2).ownBlock ≠ some gi := fun e => by have := hfar gi e; omega
        have hnw : (Value.slice ad2 Q.length cap2).ownBlock ≠ some w.heap.size := fun e => by
          have := (World.ownsRow.lt HR0.out _ e).1
          have hlt1 : w.heap.size < w1.heap.size := hgl
          omega
        go_wp2_with fail
        go_region_held3 (fun w' => w'.cell? ⟨gi, 0, none⟩ = some (.int .i64 n0) ∧ w'.cell? ⟨gi, 1, none⟩ = some (.int .i64 n1)) (first | exact ⟨by assumption, by assumption⟩ | (with_reducible repeat' (first | apply And.intro | assumption | apply cell_alloc' | apply cell_drew')) | fail)
          (first
            | (refine step_app (by rfl) _ _ (by rfl) w1.heap.size (.slice ad2 Q.length cap2) (.slice (some ⟨_, 0, none⟩) 1 1) Q [⟨n0, n1⟩] (by rfl) (by rfl) (by (with_reducible repeat (first | exact HR4.out | apply RowP.alloc' | apply RowP.drew'))) (by (with_reducible repeat (first | exact readsP_one _ _ _ _ (by simp) | apply ReadsP.alloc' | apply ReadsP.drew'))) (by have := HQL.out; omega) (by simp) (by first | omega | ((try simp) <;> omega)) ?_; intro v5 w5 hown5 hb5 hg5; have m5 := (World.grownBy.cell_far hg5 ⟨gi, 0, none⟩ (Nat.lt_of_lt_of_le hgl3 (by simp)) (Ne.symm hne)).trans (bcell ((Below.refl _ _).alloc (Nat.le_refl _) _) hgl3 d0); have m6 := (World.grownBy.cell_far hg5 ⟨gi, 1, none⟩ (Nat.lt_of_lt_of_le hgl3 (by simp)) (Ne.symm hne)).trans (bcell ((Below.refl _ _).alloc (Nat.le_refl _) _) hgl3 d1)))
        have HO5 := Lib.hid (show Own w5 w.heap.size 9 (strs D) from Own.grown (w := (w3.alloc (.cells #[.int .i64 n0, .int .i64 n1] 30)).drew) (Own.alloc HO3.out (.cells #[.int .i64 n0, .int .i64 n1] 30)) hg5 hnw)
        have hb6 : Below w.heap.size w w5 := Below.trans (hb3.alloc hz3 (.cells #[.int .i64 n0, .int .i64 n1] 30)).drew (hb5.mono hbz)
        have hz5 : w1.heap.size ≤ w5.heap.size := by have := hg5.size; simp at this; omega
        go_wp2_with fail
        go_roundw
        case rel => exact ⟨k + 1, by omega, by go_num, by rw [tab_succ, HQ.out, ← HPK.out]; exact hown5, HO5.out, fun j hj => by
          by_cases hjk : j = k
          · subst hjk; exact HOKK.out
          · exact HOK.out j (by omega), hb6, hz5⟩
        case measure => simp [intOf]; omega
end Go.Proofs.YtnapcjfemlhkmaaGreatDoor

/-
  The reference's reading of a polygon. By an AI agent.
-/
namespace Go.Proofs.YtnapcjfemlhkmaaGreatDoor
open Go.RowKit

theorem l1Rd_bd (l : List UInt8) : -1 ≤ l1RdF l ∧ l1RdF l ≤ 10000000000 := by
  unfold l1RdF
  split
  · rename_i h
    have h1 := inB_t.1 h.1
    cases hd : Lib.decFrom 0 l with
    | none => simp
    | some n =>
      have := decFrom_bd (l := l) (k := l.length) (m := n) (by omega) (by rw [List.take_length]; exact hd)
      simp only
      omega
  · omega

set_option maxHeartbeats 1600000 in
theorem pyRead_c (s : ByteArray) (w : World) (hmax : s.size ≤ 1048576) :
    Calls Tryz.prog 49 #[.string s] w fun e w' => e = .returned (.int .i64 (rdS s.toList)) ∧ w = w' := by
  have hlen := len_str s
  have hix := idx_str s
  have c0 := fun w => l1Read_c s w hmax
  have hx1 := ext_toList s
  have c1 := fun (h : 1 ≤ s.size) w => l1Read_c (s.extract 1 s.size) w (by simp; omega)
  rw [hx1] at c1
  have hsl := fun (h : 1 ≤ s.size) w => slice_from s 1 (by omega) (by omega) w
  rw [show ((1 : Int)).toNat = 1 from rfl] at hsl
  obtain ⟨l, hl⟩ : ∃ l, s.toList = l := ⟨_, rfl⟩
  rw [hl] at hlen hix c0 c1 ⊢
  generalize s.extract 1 s.size = E at hsl c1
  have hv0 := l1Rd_bd l
  have hv1 := l1Rd_bd (l.drop 1)
  have hr : rdS l = if minusB l = true ∧ 1 < l.length ∧ 0 ≤ l1RdF (l.drop 1) then -l1RdF (l.drop 1) else if 0 ≤ l1RdF l then l1RdF l else 101 := rfl
  generalize rdS l = R at hr ⊢
  generalize l1RdF l = v0 at c0 hv0 hr
  generalize l1RdF (l.drop 1) = v1 at c1 hv1 hr
  have hm : minusB l = decide (0 < l.length ∧ (l.getD 0 0).toNat = 45) := by cases l <;> simp [minusB]
  rw [hm, hlen] at hr
  have HIX := Lib.hid hix; have HL := Lib.hid hl; have HLEN := Lib.hid hlen; have HC1 := Lib.hid c1; have HSL := Lib.hid hsl
  clear hm hlen hix hl hx1 c1 hsl
  by_cases h1 : 1 < s.size
  case neg =>
    rw [if_neg (fun h => h1 h.2.1)] at hr
    have g1 : decide ((1 : Int) < (s.size : Int)) = false := decide_eq_false (by omega)
    by_cases h0 : 0 ≤ v0
    case pos =>
      rw [if_pos h0] at hr
      subst hr
      have g2 : decide ((0 : Int) ≤ R) = true := decide_eq_true (by omega)
      have C0 := Lib.hid c0; clear c0 hv0 hv1 h1 h0
      go_enter Tryz.func49, Tryz.ntmps49
      go_wp2_with fail
      refine (C0.out _).mono ?_
      rintro e w1 ⟨rfl, rfl⟩
      go_wp2_with fail
      go_ret
      exact ⟨rfl, rfl⟩
    case neg =>
      rw [if_neg h0] at hr
      subst hr
      have g2 : decide ((0 : Int) ≤ v0) = false := decide_eq_false (by omega)
      have C0 := Lib.hid c0; clear c0 hv0 hv1 h1 h0
      go_enter Tryz.func49, Tryz.ntmps49
      go_wp2_with fail
      refine (C0.out _).mono ?_
      rintro e w1 ⟨rfl, rfl⟩
      go_wp2_with fail
      go_ret
      exact ⟨rfl, rfl⟩
  case pos =>
    have g1 : decide ((1 : Int) < (s.size : Int)) = true := decide_eq_true (by omega)
    have hi0 := fun w => HIX.out 0 (by omega) w
    rw [show (((0 : Nat) : Int)) = (0 : Int) from rfl] at hi0
    have hsl := HSL.out (by omega)
    have c1 := HC1.out (by omega)
    have hub := u8_bd (l.getD 0 0)
    have C1 := Lib.hid c1; clear c1
    obtain ⟨y, hy⟩ : ∃ y, (l.getD 0 0).toNat = y := ⟨_, rfl⟩
    rw [hy] at hi0 hr hub
    clear hy
    by_cases h45 : y = 45
    case neg =>
      rw [if_neg (fun h => h45 (of_decide_eq_true h.1).2)] at hr
      have g3 : ((y : Int) == 45) = false := beq_eq_false_iff_ne.2 (by omega)
      have H45 := Lib.hid h45; clear h45
      by_cases h0 : 0 ≤ v0
      case pos =>
        rw [if_pos h0] at hr
        subst hr
        have g2 : decide ((0 : Int) ≤ R) = true := decide_eq_true (by omega)
        have C0 := Lib.hid c0; clear c0 hv0 hv1 h0
        go_enter Tryz.func49, Tryz.ntmps49
        go_wp2_with fail
        refine (C0.out _).mono ?_
        rintro e w1 ⟨rfl, rfl⟩
        go_wp2_with fail
        go_ret
        exact ⟨rfl, rfl⟩
      case neg =>
        rw [if_neg h0] at hr
        subst hr
        have g2 : decide ((0 : Int) ≤ v0) = false := decide_eq_false (by omega)
        have C0 := Lib.hid c0; clear c0 hv0 hv1 h0
        go_enter Tryz.func49, Tryz.ntmps49
        go_wp2_with fail
        refine (C0.out _).mono ?_
        rintro e w1 ⟨rfl, rfl⟩
        go_wp2_with fail
        go_ret
        exact ⟨rfl, rfl⟩
    case pos =>
      subst h45
      by_cases hn : 0 ≤ v1
      case pos =>
        rw [if_pos ⟨decide_eq_true ⟨by omega, rfl⟩, h1, hn⟩] at hr
        have g4 : decide ((0 : Int) ≤ v1) = true := decide_eq_true hn
        have wn : IntKind.i64.wrap (-v1) = R := by rw [hr]; exact i64_small (by omega) (by omega)
        have HR := Lib.hid hr
        clear hr hv0 hv1 hn c0 hub
        go_enter Tryz.func49, Tryz.ntmps49
        go_wp2_with fail
        refine (C1.out _).mono ?_
        rintro e w1 ⟨rfl, rfl⟩
        go_wp2_with fail
        refine (C1.out _).mono ?_
        rintro e w2 ⟨rfl, rfl⟩
        go_wp2_with fail
        go_ret
        exact ⟨rfl, rfl⟩
      case neg =>
        rw [if_neg (fun h => hn h.2.2)] at hr
        have g4 : decide ((0 : Int) ≤ v1) = false := decide_eq_false hn
        by_cases h0 : 0 ≤ v0
        case pos =>
          rw [if_pos h0] at hr
          subst hr
          have g2 : decide ((0 : Int) ≤ R) = true := decide_eq_true (by omega)
          have C0 := Lib.hid c0; clear c0 hv0 hv1 h0 hn
          go_enter Tryz.func49, Tryz.ntmps49
          go_wp2_with fail
          refine (C1.out _).mono ?_
          rintro e w1 ⟨rfl, rfl⟩
          go_wp2_with fail
          refine (C0.out _).mono ?_
          rintro e w1 ⟨rfl, rfl⟩
          go_wp2_with fail
          go_ret
          exact ⟨rfl, rfl⟩
        case neg =>
          rw [if_neg h0] at hr
          subst hr
          have g2 : decide ((0 : Int) ≤ v0) = false := decide_eq_false (by omega)
          have C0 := Lib.hid c0; clear c0 hv0 hv1 h0 hn
          go_enter Tryz.func49, Tryz.ntmps49
          go_wp2_with fail
          refine (C1.out _).mono ?_
          rintro e w1 ⟨rfl, rfl⟩
          go_wp2_with fail
          refine (C0.out _).mono ?_
          rintro e w1 ⟨rfl, rfl⟩
          go_wp2_with fail
          go_ret
          exact ⟨rfl, rfl⟩
end Go.Proofs.YtnapcjfemlhkmaaGreatDoor

/-
  The reference's reading of a polygon: the whole. By an AI agent.
-/
namespace Go.Proofs.YtnapcjfemlhkmaaGreatDoor
open Go.RowKit

theorem parSL_tab {l : List UInt8} {D : List ByteArray} {m : Nat} (hD : D.map (·.toList) = splitB 59 l) (hm : D.length = m + 1) :
    parSL l = tab m (fun k => ptS (D.getD k default).toList) ∧ ((splitB 59 l).dropLast.all okS = true ↔ ∀ k, k < m → okS (D.getD k default).toList = true) := by
  have h1 : (splitB 59 l).dropLast = tab m (fun k => (D.getD k default).toList) := by
    rw [← hD]
    apply List.ext_getElem
    · simp [tab, hm]
    · intro i h1 h2
      have hi : i < D.length := by simp [hm] at h1; omega
      simp [tab, List.getElem_dropLast, List.getD_eq_getElem?_getD, List.getElem?_eq_getElem hi]
  unfold parSL
  rw [h1]
  constructor
  · unfold tab; rw [List.map_map]; rfl
  · unfold tab
    rw [List.all_eq_true]
    constructor
    · intro h k hk
      exact h _ (List.mem_map.2 ⟨k, List.mem_range.2 hk, rfl⟩)
    · intro h x hx
      obtain ⟨k, hk, rfl⟩ := List.mem_map.1 hx
      exact h k (List.mem_range.1 hk)
theorem parSB_0 {l : List UInt8} (h : ¬ (splitB 59 l).length ≤ 41) : parSB l = false := by unfold parSB; rw [decide_eq_false h]; rfl
theorem parSB_a {l : List UInt8} (h : (splitB 59 l).dropLast.all okS = false) : parSB l = false := by unfold parSB; rw [h, Bool.false_and, Bool.and_false]
theorem parSB_b {l : List UInt8} (h0 : (splitB 59 l).length ≤ 41) (h : (splitB 59 l).dropLast.all okS = true) : parSB l = (polyB (parSL l) && decide (polTxt (parSL l) = l)) := by unfold parSB; rw [h, decide_eq_true h0]; rfl

set_option maxHeartbeats 6400000 in
set_option maxRecDepth 100000 in
theorem sParsePol_c (l : List UInt8) (w : World) (hs : l.length ≤ 10000) :
    Calls Tryz.prog 19 #[.string ⟨l.toArray⟩] w (HulR w (if parSB l = true then parSL l else []) (parSB l)) := by
  have cp := fun w => splitB_c 59 ⟨l.toArray⟩ w (by simp [ByteArray.size]; omega)
  rw [ByteArray.toList_mk] at cp
  have HNE := Lib.hid (splitB_ne 59 l)
  have HT := Lib.hid (fun (D : List ByteArray) (m : Nat) => parSL_tab (l := l) (D := D) (m := m))
  have HP0 := Lib.hid (parSB_0 (l := l)); have HPA := Lib.hid (parSB_a (l := l)); have HPB := Lib.hid (parSB_b (l := l))
  obtain ⟨pb, hpb⟩ : ∃ b, parSB l = b := ⟨_, rfl⟩
  obtain ⟨R, hR⟩ : ∃ R, (if pb = true then parSL l else []) = R := ⟨_, rfl⟩
  rw [hpb] at HP0 HPA HPB
  rw [hpb, hR]
  have HRR := Lib.hid hR
  have HSM := Lib.hid (splitB_mem_len 59 l)
  clear hpb hR
  have CP := Lib.hid cp; clear cp
  go_enter Tryz.func19, Tryz.ntmps19
  go_wp2_with fail
  refine (CP.out _).mono ?_
  rintro e w1 ⟨⟨v1, D, rfl, hrow, hD, hDl⟩, hb1⟩
  have hDs : (splitB 59 l).length = D.length := by rw [← hD, List.length_map]
  obtain ⟨m, hm⟩ : ∃ m, D.length = m + 1 := ⟨D.length - 1, by
    have : (splitB 59 l).length ≠ 0 := fun h => HNE.out (List.length_eq_zero_iff.1 h)
    omega⟩
  obtain ⟨g, cap, rfl, hg, hcap, hown⟩ : ∃ g cap, v1 = .slice (some ⟨g, 0, none⟩) D.length cap ∧ w.heap.size ≤ g ∧ D.length ≤ cap ∧ Own w1 g 9 (strs D) := by
    rcases Own.of_row hrow with ⟨_, h, _⟩ | ⟨g, cap, h, hg, hc, _, ho⟩
    · omega
    · exact ⟨g, cap, h, hg, hc, ho⟩
  have hmb : m ≤ 10001 := by have := hDl; simp [ByteArray.size] at this; omega
  obtain ⟨hpl, hall⟩ := HT.out D m hD hm
  have HALL := Lib.hid hall
  have hlen : ∀ k, k < m → (D.getD k default).size ≤ 10000 := fun k hk => by
    have h1 : (D.getD k default).toList ∈ splitB 59 l := by
      rw [← hD, List.getD_eq_getElem?_getD, List.getElem?_eq_getElem (by omega)]
      exact List.mem_map.2 ⟨_, List.getElem_mem _, rfl⟩
    have := HSM.out _ h1
    rw [len_str] at this
    omega
  have hcell : ∀ k, k < m → (strs D)[k]? = some (.string (D.getD k default)) := fun k hk => strs_get (by omega)
  obtain ⟨W, hW⟩ : ∃ W : Nat → ByteArray, (fun k => D.getD k default) = W := ⟨_, rfl⟩
  have hWk : ∀ k, D.getD k default = W k := fun k => by rw [← hW]
  simp only [hWk] at hlen hcell hpl HALL
  have HLEN := Lib.hid hlen; have HCELL := Lib.hid hcell
  obtain ⟨PT, hPT⟩ : ∃ PT : Nat → Pt, (fun k => ptS (W k).toList) = PT := ⟨_, rfl⟩
  have hPTk : ∀ k, ptS (W k).toList = PT k := fun k => by rw [← hPT]
  have HPT := Lib.hid hPTk
  rw [hPT] at hpl
  have hbz := hb1.size
  have hgl := hown.lt
  have HOW := Lib.hid hown; have HPL := Lib.hid hpl; have HDS := Lib.hid hDs
  have hcm : m + 1 ≤ cap := by omega
  rw [hm]
  have hDm := Lib.hid hm
  clear hpl hPT hPTk hlen hcell hW hWk hown hD hall hrow hDl hm hcap hDs
  have HROW := Lib.hid (RowP.nil w1 w1.heap.size)
  by_cases h41 : m + 1 ≤ 41
  case neg =>
    have hpf : pb = false := HP0.out (by have := HDS.out; have := hDm.out; omega)
    subst hpf
    obtain rfl : R = [] := HRR.out.symm
    have g1 : decide ((41 : Int) < ((m + 1 : Nat) : Int)) = true := decide_eq_true (by omega)
    have g2 : decide ((41 : Int) < (m : Int) + 1) = true := decide_eq_true (by omega)
    go_wp2_with fail
    go_ret2
    exact ⟨none, 0, rfl, RdP.nil _ _, hb1⟩
  case pos =>
    have g1 : decide ((41 : Int) < ((m + 1 : Nat) : Int)) = false := decide_eq_false (by omega)
    have g2 : decide ((41 : Int) < (m : Int) + 1) = false := decide_eq_false (by omega)
    have n1 : (((m + 1 : Nat) : Int)) - 1 = (m : Int) := by omega
    have n2 : ((m : Int) + 1) - 1 = (m : Int) := by omega
    have p1 : IntKind.i64.wrap (m : Int) = (m : Int) := i64_small (by omega) (by omega)
    have p2 : m ≤ m + 1 := by omega
    have p3 : m ≤ cap := by omega
    go_wp2_with fail
    clear g1 g2 n1 n2 p1 p2 p3
    go_loopw [5, 20] (fun v i wr => ∃ k : Nat, k ≤ m ∧ i = .int .i64 k ∧ RowP wr w1.heap.size v (tab k PT) ∧ Own wr g 9 (strs D) ∧ (∀ j, j < k → okS (W j).toList = true) ∧ Below w1.heap.size w1 wr) (fun _ i _ => m - (intOf i).toNat)
    case atStart => exact ⟨0, Nat.zero_le _, rfl, HROW.out, HOW.out, fun j hj => absurd hj (by omega), Below.refl _ _⟩
    case round =>
      obtain ⟨k, hk, rfl, hrow, hown, hok, hbel⟩ := hrel
      clear HROW HOW
      have hsw := hbel.size
      have hb1r : Below w.heap.size w wr := ball hb1 hbel
      have HOK := Lib.hid hok; have HO := Lib.hid hown; have HR := Lib.hid hrow; clear hok hown hrow
      by_cases hlt : k < m
      case neg =>
        obtain rfl : k = m := by omega
        have hall := HALL.out.2 HOK.out
        have hpb := HPB.out (by have := HDS.out; have := hDm.out; omega) hall
        rw [HPL.out] at hpb
        have hrr : (if pb = true then tab k PT else []) = R := by rw [← HPL.out]; exact HRR.out
        obtain ⟨Q, hQ⟩ : ∃ Q, tab k PT = Q := ⟨_, rfl⟩
        have hQl : Q.length = k := by rw [← hQ, tab_length]
        have hrow := HR.out
        rw [hQ] at hpb hrr hrow
        obtain ⟨ad2, cap2, rfl, hc1, hc2⟩ := hrow.shape
        have hrd := RowP.rd hrow
        have cpo := fun w hr => pyGood_c ad2 cap2 Q w hr (by omega)
        have cpt := fun (h : polyB Q = true) w hr => pyText_c ad2 cap2 Q w hr (by omega) (polyB_all h)
        have HQ := Lib.hid hrd
        generalize polyB Q = up at hpb cpo cpt
        generalize polTxt Q = T at hpb cpt
        unfold strV at cpt
        have hneq : (T == l) = decide (T = l) := Bool.eq_iff_iff.2 (by rw [beq_iff_eq, decide_eq_true_iff])
        generalize decide (T = l) = tb at hpb hneq
        have CPO := Lib.hid cpo; have CPT := Lib.hid cpt
        have HRR2 := Lib.hid hrr
        clear cpo cpt hrr hrow hrd hall hQ HR HRR HPB HPA HT HP0
        have HQL := Lib.hid hQl; clear hQl
        cases up
        case false =>
          obtain rfl : pb = false := hpb
          obtain rfl : R = [] := HRR2.out.symm
          clear hneq
          go_wp2_with fail
          refine (CPO.out _ HQ.out).mono ?_
          rintro e w3 ⟨rfl, hw3⟩
          have hb3 := ball hb1r hw3
          go_wp2_with fail
          go_ret2
          exact ⟨none, 0, rfl, RdP.nil _ _, hb3⟩
        case true =>
          obtain rfl : pb = tb := hpb
          cases pb
          case false =>
            obtain rfl : R = [] := HRR2.out.symm
            go_wp2_with fail
            refine (CPO.out _ HQ.out).mono ?_
            rintro e w3 ⟨rfl, hw3⟩
            have hb3 := ball hb1r hw3
            have HQ3 := Lib.hid (HQ.out.below hw3)
            go_wp2_with fail
            refine (CPT.out trivial _ HQ3.out).mono ?_
            rintro e w4 ⟨rfl, hw4⟩
            have hb4 := ball hb3 hw4
            go_wp2_with fail
            go_ret2
            exact ⟨none, 0, rfl, RdP.nil _ _, hb4⟩
          case true =>
            obtain rfl : R = Q := HRR2.out.symm
            go_wp2_with fail
            refine (CPO.out _ HQ.out).mono ?_
            rintro e w3 ⟨rfl, hw3⟩
            have hb3 := ball hb1r hw3
            have HQ3 := Lib.hid (HQ.out.below hw3)
            go_wp2_with fail
            refine (CPT.out trivial _ HQ3.out).mono ?_
            rintro e w4 ⟨rfl, hw4⟩
            have hb4 := ball hb3 hw4
            have HQ4 := Lib.hid (HQ3.out.below hw4)
            go_wp2_with fail
            go_ret2
            exact ⟨ad2, cap2, rfl, HQ4.out, hb4⟩
      case pos =>
        have hcl := HO.out.cell? (HCELL.out k hlt)
        have hwl := HLEN.out k hlt
        have cs := fun w => splitB_c 44 (W k) w (by omega)
        have hokk : okS (W k).toList = decide ((splitB 44 (W k).toList).length = 2) := rfl
        have hpt := HPT.out k
        unfold ptS at hpt
        have hne2 := splitB_ne 44 (W k).toList
        have hml := splitB_mem_len 44 (W k).toList
        rw [len_str] at hml
        generalize splitB 44 (W k).toList = S2 at cs hokk hpt hne2 hml
        have CS := Lib.hid cs; have HOKK := Lib.hid hokk; have HPK := Lib.hid hpt; have HNE2 := Lib.hid hne2; have HML := Lib.hid hml; clear cs hokk hpt hne2 hml
        have HPA2 := Lib.hid (show okS (W k).toList = false → pb = false from fun hf => HPA.out (by
          cases h : (splitB 59 l).dropLast.all okS
          · rfl
          · have := HALL.out.1 h k hlt
            rw [hf] at this
            exact absurd this (by simp)))
        obtain ⟨WB, hWB⟩ : ∃ WB, W k = WB := ⟨_, rfl⟩
        rw [hWB] at hcl CS HOKK hwl HML HPA2
        have HWB := Lib.hid hWB; clear hWB
        go_wp2_with fail
        refine (CS.out _).mono ?_
        rintro e w3 ⟨⟨v2, D2, rfl, hrow2, hD2, hDl2⟩, hw3⟩
        have hb3 := ball hb1r hw3
        have hS2 : S2.length = D2.length := by rw [← hD2, List.length_map]
        obtain ⟨g2, cap2', rfl, hg2, hown2⟩ : ∃ g cap, v2 = .slice (some ⟨g, 0, none⟩) D2.length cap ∧ wr.heap.size ≤ g ∧ Own w3 g 9 (strs D2) := by
          rcases Own.of_row hrow2 with ⟨_, h, _⟩ | ⟨g, cap, h, hg, hc, _, ho⟩
          · exact absurd (List.length_eq_zero_iff.1 (hS2.trans h)) HNE2.out
          · exact ⟨g, cap, h, hg, ho⟩
        clear hrow2 hDl2
        by_cases h2 : D2.length = 2
        case neg =>
          have hf : okS WB.toList = false := by rw [HOKK.out, hS2]; exact decide_eq_false h2
          have hpf := HPA2.out hf
          subst hpf
          obtain rfl : R = [] := HRR.out.symm
          have hn2 : ((D2.length : Int) == 2) = false := beq_eq_false_iff_ne.2 (by omega)
          clear h2 hS2 hD2
          go_wp2_with fail
          go_ret2
          exact ⟨none, 0, rfl, RdP.nil _ _, hb3⟩
        case pos =>
          have hkk := Lib.hid (show okS WB.toList = true by rw [HOKK.out, hS2]; exact decide_eq_true h2)
          obtain ⟨A, B, rfl⟩ : ∃ A B, D2 = [A, B] := by
            match D2, h2 with
            | [A, B], _ => exact ⟨A, B, rfl⟩
          have d0 : w3.cell? ⟨g2, 0, none⟩ = some (.string A) := hown2.cell? (i := 0) rfl
          have d1 : w3.cell? ⟨g2, 1, none⟩ = some (.string B) := hown2.cell? (i := 1) rfl
          have hgl2 := hown2.lt
          have hSS : S2 = [A.toList, B.toList] := hD2.symm
          have hpk := HPK.out
          have hla := HML.out A.toList (by rw [hSS]; simp)
          have hlb := HML.out B.toList (by rw [hSS]; simp)
          rw [len_str] at hla hlb
          rw [hSS] at hpk
          simp only [List.getD_cons_zero, List.getD_cons_succ] at hpk
          have pa := fun w => pyRead_c A w (by omega)
          have pbb := fun w => pyRead_c B w (by omega)
          generalize rdS A.toList = n0 at pa hpk
          generalize rdS B.toList = n1 at pbb hpk
          have PA := Lib.hid pa; have PB := Lib.hid pbb; have HPK2 := Lib.hid hpk
          clear pa pbb hpk hSS hla hlb hD2 hS2 h2 HPK HML HNE2 HOKK CS hown2
          have hz3 := hb3.size
          have hz4 := hw3.size
          have HR3 := Lib.hid (HR.out.below hw3)
          have HO3 := Lib.hid (HO.out.belowAll hw3)
          obtain ⟨ad2, cap2, rfl, hc1, hc2⟩ := HR.out.shape
          have hql : (tab k PT).length = k := tab_length _ _
          obtain ⟨Q, hQ⟩ : ∃ Q, tab k PT = Q := ⟨_, rfl⟩
          have HRQ := HR3.out
          have HRO := HR.out
          rw [hQ] at hql HRQ HRO ⊢
          have HQ := Lib.hid hQ; have HQL := Lib.hid hql; have HR4 := Lib.hid HRQ; have HR0 := Lib.hid HRO
          clear hQ hql HRQ HRO HR3 HR
          have hfar : ∀ q, (Value.slice ad2 Q.length cap2).ownBlock = some q → q < wr.heap.size := fun q e => (World.ownsRow.lt HR0.out q e).2
          have hne : (Value.slice ad2 Q.length cap2).ownBlock ≠ some g2 := fun e => by have := hfar g2 e; omega
          have hnw : (Value.slice ad2 Q.length cap2).ownBlock ≠ some g := fun e => by
            have := (World.ownsRow.lt HR0.out _ e).1
            have hlt1 : g < w1.heap.size := hgl
            omega
          go_wp2_with fail
          go_region_held3 (fun w' => w'.cell? ⟨g2, 0, none⟩ = some (.string A) ∧ w'.cell? ⟨g2, 1, none⟩ = some (.string B)) (first | exact ⟨by assumption, by assumption⟩ | (with_reducible repeat' (first | apply And.intro | assumption | apply cell_alloc' | apply cell_drew')) | fail)
            (first
              | (go_at_call 49; (with_reducible refine (PA.out _).mono ?_); rintro e W1 ⟨rfl, rfl⟩)
              | (go_at_call 49; (with_reducible refine (PB.out _).mono ?_); rintro e W1 ⟨rfl, rfl⟩)
              | (refine step_app (by rfl) _ _ (by rfl) w1.heap.size (.slice ad2 Q.length cap2) (.slice (some ⟨_, 0, none⟩) 1 1) Q [⟨n0, n1⟩] (by rfl) (by rfl) (by (with_reducible repeat (first | exact HR4.out | apply RowP.alloc' | apply RowP.drew'))) (by (with_reducible repeat (first | exact readsP_one _ _ _ _ (by simp) | apply ReadsP.alloc' | apply ReadsP.drew'))) (by have := HQL.out; omega) (by simp) (by first | omega | ((try simp) <;> omega)) ?_; intro v5 w5 hown5 hb5 hg5; have m5 := (World.grownBy.cell_far hg5 ⟨g2, 0, none⟩ (Nat.lt_of_lt_of_le hgl2 (by simp)) (Ne.symm hne)).trans (bcell ((Below.refl _ _).alloc (Nat.le_refl _) _) hgl2 d0); have m6 := (World.grownBy.cell_far hg5 ⟨g2, 1, none⟩ (Nat.lt_of_lt_of_le hgl2 (by simp)) (Ne.symm hne)).trans (bcell ((Below.refl _ _).alloc (Nat.le_refl _) _) hgl2 d1)))
          have HO5 := Lib.hid (show Own w5 g 9 (strs D) from Own.grown (w := (w3.alloc (.cells #[.int .i64 n0, .int .i64 n1] 30)).drew) (Own.alloc HO3.out (.cells #[.int .i64 n0, .int .i64 n1] 30)) hg5 hnw)
          have hb6 : Below w1.heap.size w1 w5 := Below.trans ((hbel.trans (hw3.mono hsw)).alloc (Nat.le_trans hsw hz4) (.cells #[.int .i64 n0, .int .i64 n1] 30)).drew hb5
          go_wp2_with fail
          go_roundw
          case rel => exact ⟨k + 1, by omega, by go_num, by rw [tab_succ, HQ.out, ← HPK2.out]; exact hown5, HO5.out, fun j hj => by
            by_cases hjk : j = k
            · subst hjk; rw [HWB.out]; exact hkk.out
            · exact HOK.out j (by omega), hb6⟩
          case measure => simp [intOf]; omega
end Go.Proofs.YtnapcjfemlhkmaaGreatDoor
