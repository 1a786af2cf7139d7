/-
  Lines' texts: program and reference. Printed by gen_lineX.py.
-/
import Derived.Test.YtbkfgaibcoekgaaDoorLineS
import Derived.Test.YtbkfgaibcoekgaaDoorNumI
namespace Go.Proofs.YtbkfgaibcoekgaaDoor
open Go.RowKit

theorem lineTxt_app (l : Ln) : lineTxt l = Lib.itoa l.a ++ [32] ++ Lib.itoa l.b ++ [32] ++ Lib.itoa l.c := by simp [lineTxt]
theorem add_str' (a b : ByteArray) (h : a.size + b.size ≤ 9223372036854775807) (w : World) : (Op.stringOp .add a b).run Tryd.prog w = .ok (.string (a ++ b)) w := run_string_add_sum w a b h
theorem sp1 : (⟨#[32]⟩ : ByteArray).size = 1 := rfl
theorem bytes2 (A B : List UInt8) : (⟨A.toArray⟩ : ByteArray) ++ ⟨B.toArray⟩ = ⟨(A ++ B).toArray⟩ := by
  apply ByteArray.ext
  simp
theorem bytes5 (A B C : List UInt8) : (⟨A.toArray⟩ : ByteArray) ++ ⟨#[32]⟩ ++ ⟨B.toArray⟩ ++ ⟨#[32]⟩ ++ ⟨C.toArray⟩ = ⟨(A ++ [32] ++ B ++ [32] ++ C).toArray⟩ := by
  rw [← bytes2, ← bytes2, ← bytes2, ← bytes2]
theorem itoa_len8 {n : Int} (h : -1000000 ≤ n ∧ n ≤ 1000000) : (Lib.itoa n).length ≤ 21 := itoa_len (by omega) (by omega)

set_option maxHeartbeats 3200000 in
set_option maxRecDepth 100000 in
theorem lineTxt_c (l : Ln) (w : World) (h : lnB l = true) (hL : LaidS w) :
    Calls Tryd.prog 28 #[lnV l] w fun e w' => e = .returned (strV (lineTxt l)) ∧ Below w.heap.size w w' := by
  rw [lineTxt_app]
  obtain ⟨a, b, c⟩ := l
  have hbd := lnB_bd h
  clear h
  have HL := Lib.hid hL; clear hL
  have ca := fun w hL => itoa_c a w (by omega) (by omega) hL
  have cb := fun w hL => itoa_c b w (by omega) (by omega) hL
  have cc := fun w hL => itoa_c c w (by omega) (by omega) hL
  have la := itoa_len8 hbd.1
  have lb := itoa_len8 hbd.2.1
  have lc := itoa_len8 hbd.2.2
  clear hbd
  unfold lnV
  simp only
  unfold strV at *
  have hE := bytes5 (Lib.itoa a) (Lib.itoa b) (Lib.itoa c)
  have la' : (⟨(Lib.itoa a).toArray⟩ : ByteArray).size ≤ 21 := by simpa [ByteArray.size] using la
  have lb' : (⟨(Lib.itoa b).toArray⟩ : ByteArray).size ≤ 21 := by simpa [ByteArray.size] using lb
  have lc' : (⟨(Lib.itoa c).toArray⟩ : ByteArray).size ≤ 21 := by simpa [ByteArray.size] using lc
  clear la lb lc
  generalize (⟨(Lib.itoa a ++ [32] ++ Lib.itoa b ++ [32] ++ Lib.itoa c).toArray⟩ : ByteArray) = T at hE ⊢
  generalize (⟨(Lib.itoa a).toArray⟩ : ByteArray) = A at hE ca la'
  generalize (⟨(Lib.itoa b).toArray⟩ : ByteArray) = B at hE cb lb'
  generalize (⟨(Lib.itoa c).toArray⟩ : ByteArray) = C at hE cc lc'
  have h1 := fun w => add_str' A ⟨#[32]⟩ (by simp only [sp1]; omega) w
  have h2 := fun w => add_str' (A ++ ⟨#[32]⟩) B (by simp only [ByteArray.size_append, sp1]; omega) w
  have h3 := fun w => add_str' (A ++ ⟨#[32]⟩ ++ B) ⟨#[32]⟩ (by simp only [ByteArray.size_append, sp1]; omega) w
  have h4 := fun w => add_str' (A ++ ⟨#[32]⟩ ++ B ++ ⟨#[32]⟩) C (by simp only [ByteArray.size_append, sp1]; omega) w
  generalize A ++ ⟨#[32]⟩ ++ B ++ ⟨#[32]⟩ ++ C = T4 at hE h4
  generalize A ++ ⟨#[32]⟩ ++ B ++ ⟨#[32]⟩ = T3 at h3 h4
  generalize A ++ ⟨#[32]⟩ ++ B = T2 at h2 h3
  generalize A ++ ⟨#[32]⟩ = T1 at h1 h2
  subst hE
  clear la' lb' lc'
  have CA := Lib.hid ca; have CB := Lib.hid cb; have CC := Lib.hid cc; clear ca cb cc
  have hb0 : Below w.heap.size w (w.alloc (.cells #[.int .i64 a, .int .i64 b, .int .i64 c] 24)) := (Below.refl _ _).alloc (Nat.le_refl _) _
  have o0 := LnO.new w a b c rfl
  obtain ⟨g, hg⟩ : ∃ g, w.heap.size = g := ⟨_, rfl⟩
  go_enter Tryd.func28, Tryd.ntmps28
  go_wp2_with fail
  rw [hg] at o0
  obtain ⟨x0, x1, x2⟩ := o0.at
  generalize hw0 : w.alloc (.cells #[.int .i64 a, .int .i64 b, .int .i64 c] 24) = w0 at hb0 o0 x0 x1 x2 ⊢
  clear hw0
  have q0 := o0
  go_region_held3 (fun w' => w'.cell? ⟨g, 0, none⟩ = some (.int .i64 a) ∧ w'.cell? ⟨g, 1, none⟩ = some (.int .i64 b) ∧ w'.cell? ⟨g, 2, none⟩ = some (.int .i64 c)) (exact ⟨by assumption, by assumption, by assumption⟩)
    (first
      | (go_at_call 46; (with_reducible refine (CA.out _ (HL.out.below (by with_reducible (first | exact hb0 | exact hb0.drew)))).mono ?_); rintro e W1 ⟨rfl, hw1⟩; have hb1 : Below w.heap.size w W1 := ball (by with_reducible (first | exact hb0 | exact hb0.drew)) hw1; have q1 : LnO W1 g ⟨a, b, c⟩ := LnO.below (by exact q0) hw1; obtain ⟨x10, x11, x12⟩ := q1.at)
      | (go_at_call 46; (with_reducible refine (CB.out _ (HL.out.below (by with_reducible (first | exact hb1 | exact hb1.drew)))).mono ?_); rintro e W2 ⟨rfl, hw2⟩; have hb2 : Below w.heap.size w W2 := ball (by with_reducible (first | exact hb1 | exact hb1.drew)) hw2; have q2 : LnO W2 g ⟨a, b, c⟩ := LnO.below (by exact q1) hw2; obtain ⟨x20, x21, x22⟩ := q2.at)
      | (go_at_call 46; (with_reducible refine (CC.out _ (HL.out.below (by with_reducible (first | exact hb2 | exact hb2.drew)))).mono ?_); rintro e W3 ⟨rfl, hw3⟩; have hb3 : Below w.heap.size w W3 := ball (by with_reducible (first | exact hb2 | exact hb2.drew)) hw3; have q3 : LnO W3 g ⟨a, b, c⟩ := LnO.below (by exact q2) hw3; obtain ⟨x30, x31, x32⟩ := q3.at))
  all_goals
    go_wp2_with fail
    go_ret
    exact ⟨rfl, hb3⟩

set_option maxHeartbeats 3200000 in
set_option maxRecDepth 100000 in
theorem lnText_c (l : Ln) (w : World) (h : lnB l = true) :
    Calls Tryd.prog 29 #[lnV l] w fun e w' => e = .returned (strV (lineTxt l)) ∧ Below w.heap.size w w' := by
  rw [lineTxt_app]
  obtain ⟨a, b, c⟩ := l
  have hbd := lnB_bd h
  clear h
  have ca := fun w => l1Int_c a w (by omega) (by omega)
  have cb := fun w => l1Int_c b w (by omega) (by omega)
  have cc := fun w => l1Int_c c w (by omega) (by omega)
  have la := itoa_len8 hbd.1
  have lb := itoa_len8 hbd.2.1
  have lc := itoa_len8 hbd.2.2
  clear hbd
  unfold lnV
  simp only
  unfold strV at *
  have hE := bytes5 (Lib.itoa a) (Lib.itoa b) (Lib.itoa c)
  have la' : (⟨(Lib.itoa a).toArray⟩ : ByteArray).size ≤ 21 := by simpa [ByteArray.size] using la
  have lb' : (⟨(Lib.itoa b).toArray⟩ : ByteArray).size ≤ 21 := by simpa [ByteArray.size] using lb
  have lc' : (⟨(Lib.itoa c).toArray⟩ : ByteArray).size ≤ 21 := by simpa [ByteArray.size] using lc
  clear la lb lc
  generalize (⟨(Lib.itoa a ++ [32] ++ Lib.itoa b ++ [32] ++ Lib.itoa c).toArray⟩ : ByteArray) = T at hE ⊢
  generalize (⟨(Lib.itoa a).toArray⟩ : ByteArray) = A at hE ca la'
  generalize (⟨(Lib.itoa b).toArray⟩ : ByteArray) = B at hE cb lb'
  generalize (⟨(Lib.itoa c).toArray⟩ : ByteArray) = C at hE cc lc'
  have h1 := fun w => add_str' A ⟨#[32]⟩ (by simp only [sp1]; omega) w
  have h2 := fun w => add_str' (A ++ ⟨#[32]⟩) B (by simp only [ByteArray.size_append, sp1]; omega) w
  have h3 := fun w => add_str' (A ++ ⟨#[32]⟩ ++ B) ⟨#[32]⟩ (by simp only [ByteArray.size_append, sp1]; omega) w
  have h4 := fun w => add_str' (A ++ ⟨#[32]⟩ ++ B ++ ⟨#[32]⟩) C (by simp only [ByteArray.size_append, sp1]; omega) w
  generalize A ++ ⟨#[32]⟩ ++ B ++ ⟨#[32]⟩ ++ C = T4 at hE h4
  generalize A ++ ⟨#[32]⟩ ++ B ++ ⟨#[32]⟩ = T3 at h3 h4
  generalize A ++ ⟨#[32]⟩ ++ B = T2 at h2 h3
  generalize A ++ ⟨#[32]⟩ = T1 at h1 h2
  subst hE
  clear la' lb' lc'
  have CA := Lib.hid ca; have CB := Lib.hid cb; have CC := Lib.hid cc; clear ca cb cc
  have hb0 : Below w.heap.size w (w.alloc (.cells #[.int .i64 a, .int .i64 b, .int .i64 c] 24)) := (Below.refl _ _).alloc (Nat.le_refl _) _
  have o0 := LnO.new w a b c rfl
  obtain ⟨g, hg⟩ : ∃ g, w.heap.size = g := ⟨_, rfl⟩
  go_enter Tryd.func29, Tryd.ntmps29
  go_wp2_with fail
  rw [hg] at o0
  obtain ⟨x0, x1, x2⟩ := o0.at
  generalize hw0 : w.alloc (.cells #[.int .i64 a, .int .i64 b, .int .i64 c] 24) = w0 at hb0 o0 x0 x1 x2 ⊢
  clear hw0
  have q0 := o0
  go_region_held3 (fun w' => w'.cell? ⟨g, 0, none⟩ = some (.int .i64 a) ∧ w'.cell? ⟨g, 1, none⟩ = some (.int .i64 b) ∧ w'.cell? ⟨g, 2, none⟩ = some (.int .i64 c)) (exact ⟨by assumption, by assumption, by assumption⟩)
    (first
      | (go_at_call 47; (with_reducible refine (CA.out _).mono ?_); rintro e W1 ⟨rfl, hw1⟩; have hb1 : Below w.heap.size w W1 := ball (by with_reducible (first | exact hb0 | exact hb0.drew)) hw1; have q1 : LnO W1 g ⟨a, b, c⟩ := LnO.below (by exact q0) hw1; obtain ⟨x10, x11, x12⟩ := q1.at)
      | (go_at_call 47; (with_reducible refine (CB.out _).mono ?_); rintro e W2 ⟨rfl, hw2⟩; have hb2 : Below w.heap.size w W2 := ball (by with_reducible (first | exact hb1 | exact hb1.drew)) hw2; have q2 : LnO W2 g ⟨a, b, c⟩ := LnO.below (by exact q1) hw2; obtain ⟨x20, x21, x22⟩ := q2.at)
      | (go_at_call 47; (with_reducible refine (CC.out _).mono ?_); rintro e W3 ⟨rfl, hw3⟩; have hb3 : Below w.heap.size w W3 := ball (by with_reducible (first | exact hb2 | exact hb2.drew)) hw3; have q3 : LnO W3 g ⟨a, b, c⟩ := LnO.below (by exact q2) hw3; obtain ⟨x30, x31, x32⟩ := q3.at))
  all_goals
    go_wp2_with fail
    go_ret
    exact ⟨rfl, hb3⟩

set_option maxHeartbeats 800000 in
theorem iLineText_c (l : Ln) (w : World) (hL : LaidS w) :
    Calls Tryd.prog 9 #[lnV l] w fun e w' => e = .returned (.tuple #[strV (if lnB l = true then lineTxt l else []), .bool (lnB l)]) ∧ Below w.heap.size w w' := by
  have HL := Lib.hid hL; clear hL
  have cf := fun w => isLine_c l w
  have ct := fun w => lineTxt_c l w
  generalize lnB l = u at cf ct ⊢
  generalize lineTxt l = T at ct ⊢
  obtain ⟨a, b, c⟩ := l
  unfold lnV strV at *
  simp only at cf ct ⊢
  have CF := Lib.hid cf; have CT := Lib.hid ct; clear cf ct
  have hb0 : Below w.heap.size w (w.alloc (.cells #[.int .i64 a, .int .i64 b, .int .i64 c] 24)) := (Below.refl _ _).alloc (Nat.le_refl _) _
  cases u
  case false =>
    go_enter Tryd.func9, Tryd.ntmps9
    go_wp2_with fail
    refine (CF.out _).mono ?_
    rintro e w1 ⟨rfl, hw1⟩
    have hb1 := hb0.trans (hw1.mono hb0.size)
    have o1 := (LnO.new w a b c rfl).below hw1
    obtain ⟨x0, x1, x2⟩ := o1.at
    go_wp2_with fail
    go_ret2
    exact ⟨rfl, hb1⟩
  case true =>
    go_enter Tryd.func9, Tryd.ntmps9
    go_wp2_with fail
    refine (CF.out _).mono ?_
    rintro e w1 ⟨rfl, hw1⟩
    have hb1 := hb0.trans (hw1.mono hb0.size)
    have o1 := (LnO.new w a b c rfl).below hw1
    obtain ⟨x0, x1, x2⟩ := o1.at
    go_wp2_with fail
    refine (CT.out _ trivial (HL.out.below hb1)).mono ?_
    rintro e w2 ⟨rfl, hw2⟩
    go_wp2_with fail
    go_ret2
    exact ⟨rfl, ball hb1 hw2⟩

set_option maxHeartbeats 800000 in
theorem sLineText_c (l : Ln) (w : World) :
    Calls Tryd.prog 10 #[lnV l] w fun e w' => e = .returned (.tuple #[strV (if lnB l = true then lineTxt l else []), .bool (lnB l)]) ∧ Below w.heap.size w w' := by
  have cf := fun w => lnGood_c l w
  have ct := fun w => lnText_c l w
  generalize lnB l = u at cf ct ⊢
  generalize lineTxt l = T at ct ⊢
  obtain ⟨a, b, c⟩ := l
  unfold lnV strV at *
  simp only at cf ct ⊢
  have CF := Lib.hid cf; have CT := Lib.hid ct; clear cf ct
  have hb0 : Below w.heap.size w (w.alloc (.cells #[.int .i64 a, .int .i64 b, .int .i64 c] 24)) := (Below.refl _ _).alloc (Nat.le_refl _) _
  cases u
  case false =>
    go_enter Tryd.func10, Tryd.ntmps10
    go_wp2_with fail
    refine (CF.out _).mono ?_
    rintro e w1 ⟨rfl, hw1⟩
    have hb1 := hb0.trans (hw1.mono hb0.size)
    have o1 := (LnO.new w a b c rfl).below hw1
    obtain ⟨x0, x1, x2⟩ := o1.at
    go_wp2_with fail
    go_ret2
    exact ⟨rfl, hb1⟩
  case true =>
    go_enter Tryd.func10, Tryd.ntmps10
    go_wp2_with fail
    refine (CF.out _).mono ?_
    rintro e w1 ⟨rfl, hw1⟩
    have hb1 := hb0.trans (hw1.mono hb0.size)
    have o1 := (LnO.new w a b c rfl).below hw1
    obtain ⟨x0, x1, x2⟩ := o1.at
    go_wp2_with fail
    refine (CT.out _ trivial).mono ?_
    rintro e w2 ⟨rfl, hw2⟩
    go_wp2_with fail
    go_ret2
    exact ⟨rfl, ball hb1 hw2⟩

end Go.Proofs.YtbkfgaibcoekgaaDoor
