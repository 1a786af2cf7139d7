/-
  Some texts of this proof in one: PeF PeG. Each part tells what it proves. By an AI agent.
-/
import Derived.Test.YtfgdhlnmndgjbaaGreatDoorPeC
import Derived.Test.YtfgdhlnmndgjbaaGreatDoorPfD
import Derived.Shelf.Strings.Builder1
import Derived.Lib.AppendIntMem

/-
  Texts of matrices, both sides. By an AI agent.
-/
namespace Go.Proofs.YtfgdhlnmndgjbaaGreatDoor
open Go.RowKit

/-! ### Plain -/
def mtxT (M : List (List Int)) : List UInt8 := M.flatMap fun r => numsTxt 32 r ++ [59]
theorem mtxT_snoc (M : List (List Int)) (r : List Int) : mtxT (M ++ [r]) = mtxT M ++ (numsTxt 32 r ++ [59]) := by unfold mtxT; rw [List.flatMap_append]; simp
def mtO (M : List (List Int)) : List UInt8 := if matB M = true then mtxT M else []
theorem mtxT_len {M : List (List Int)} (h : ∀ r ∈ M, r.length ≤ 6 ∧ ∀ n ∈ r, numB n = true) : (mtxT M).length ≤ M.length * 133 := by
  induction M with
  | nil => simp [mtxT]
  | cons r M ih =>
    have h1 := h r (by simp)
    have h2 := ih fun s hs => h s (List.mem_cons_of_mem _ hs)
    have h3 := nums_len (c := 32) (l := r) h1.2
    unfold mtxT at h2 ⊢
    simp only [List.flatMap_cons, List.length_append, List.length_cons, List.length_nil]
    have h4 : r.length * 22 ≤ 6 * 22 := Nat.mul_le_mul_right _ h1.1
    rw [Nat.succ_mul]
    omega
theorem mat_rows {M : List (List Int)} (h : matB M = true) : ∀ r ∈ M, (1 ≤ r.length ∧ r.length ≤ 6) ∧ ∀ n ∈ r, numB n = true := fun r hr => by
  unfold matB at h
  rw [Bool.and_eq_true, List.all_eq_true] at h
  have h1 := h.2 r hr
  rw [Bool.and_eq_true] at h1
  have h2 := h1.1
  unfold vecB at h2
  rw [Bool.and_eq_true, List.all_eq_true] at h2
  exact ⟨by have := inB_t.1 h2.1; omega, fun n hn => h2.2 n hn⟩
theorem add_strM (a b : ByteArray) (h : a.size + b.size ≤ 9223372036854775807) (w : World) : (Op.stringOp .add a b).run Tryz.prog w = .ok (.string (a ++ b)) w := run_string_add_sum w a b h
theorem bytes_addM (A B : List UInt8) : (⟨A.toArray⟩ : ByteArray) ++ ⟨B.toArray⟩ = ⟨(A ++ B).toArray⟩ := by
  apply ByteArray.ext
  simp
theorem takeM_oneE (M : List (List Int)) {k : Nat} (h : k < M.length) : M.take (k + 1) = M.take k ++ [M.getD k []] := by
  rw [List.take_succ_eq_append_getElem h, List.getD_eq_getElem?_getD, List.getElem?_eq_getElem h]; rfl
theorem getD_memE {M : List (List Int)} {k : Nat} (h : k < M.length) : M.getD k [] ∈ M := by
  rw [List.getD_eq_getElem?_getD, List.getElem?_eq_getElem h]; exact List.getElem_mem _

/-! ### the builder -/
theorem laysWS : Go.Proofs.Lays.n166 Tryz.prog Tryz.lays156_ren := {
  mixed := Tryz.lays156.mixed
  f166 := Tryz.lays156.f166
  f240 := Tryz.lays156.f240
  f276 := Tryz.lays156.f276
  t0 := Tryz.lays156.t0
  a0 := Tryz.lays156.a0
  z0 := Tryz.lays156.z0
  v0 := Tryz.lays156.v0
  t3 := Tryz.lays156.t3
  a3 := Tryz.lays156.a3
  z3 := Tryz.lays156.z3
  v3 := Tryz.lays156.v3
  t4 := Tryz.lays156.t4
  a4 := Tryz.lays156.a4
  z4 := Tryz.lays156.z4
  v4 := Tryz.lays156.v4
  t9 := Tryz.lays156.t9
  a9 := Tryz.lays156.a9
  z9 := Tryz.lays156.z9
  v9 := Tryz.lays156.v9
  t20 := Tryz.lays156.t20
  a20 := Tryz.lays156.a20
  z20 := Tryz.lays156.z20
  v20 := Tryz.lays156.v20
  t37 := Tryz.lays156.t37
  a37 := Tryz.lays156.a37
  z37 := Tryz.lays156.z37
  v37 := Tryz.lays156.v37
  t70 := Tryz.lays156.t70
  a70 := Tryz.lays156.a70
  z70 := Tryz.lays156.z70
  v70 := Tryz.lays156.v70
  t72 := Tryz.lays156.t72
  a72 := Tryz.lays156.a72
  z72 := Tryz.lays156.z72
  v72 := Tryz.lays156.v72
  t75 := Tryz.lays156.t75
  a75 := Tryz.lays156.a75
  z75 := Tryz.lays156.z75
  v75 := Tryz.lays156.v75
  t164 := Tryz.lays156.t164
  a164 := Tryz.lays156.a164
  z164 := Tryz.lays156.z164
  v164 := Tryz.lays156.v164 }
theorem builder_below {T e : TypeId} {B b : Nat} {bs : List Value} {w w' : World} (h : Lib.IsBuilder T e B b bs w) (hb : Below w.heap.size w w') : Lib.IsBuilder T e B b bs w' := by
  have one : ∀ p, Lib.BuilderAt T e B b p bs w → Lib.BuilderAt T e B b p bs w' := fun p k => by
    have hlt := k.lt
    obtain ⟨h1, v, h2, h3, h4⟩ := k
    exact ⟨h1, v, by rw [hb.block b hlt]; exact h2, row_below h3 hb, h4⟩
  rcases h with h | h
  · exact Or.inl (one _ h)
  · exact Or.inr (one _ h)
theorem writeString_c (B b : Nat) (l s : List UInt8) (w : World) (h : Lib.IsBuilder 85 5 B b (Lib.byteCells l) w) (hl : l.length + s.length ≤ 1000000) (hB : B ≤ w.heap.size) :
    Calls Tryz.prog 70 #[.pointer (some ⟨b, 0, none⟩), .string ⟨s.toArray⟩] w fun e w' => (∃ v, e = .returned v) ∧ Lib.IsBuilder 85 5 B b (Lib.byteCells (l ++ s)) w' ∧ Below B w w' :=
  (Any.Builder_WriteString laysWS Tryz.Builder_Extra_156 B b (Lib.byteCells l) ⟨s.toArray⟩ w h (by rw [Lib.byteCells_length]; simp only [ByteArray.size, List.size_toArray]; omega) hB).mono fun e w' k => by
    obtain ⟨h1, h2, h3⟩ := k
    refine ⟨⟨_, h1⟩, Or.inr ?_, h3⟩
    rw [Lib.strCells_toArray] at h2
    have : Lib.byteCells (l ++ s) = Lib.byteCells l ++ Lib.byteCells s := by simp [Lib.byteCells]
    rw [this]
    exact h2

set_option maxRecDepth 100000 in
set_option maxHeartbeats 3200000 in
theorem matrixText_c (ad : Option Addr) (cap : Nat) (M : List (List Int)) (w : World) (hr : RdM w ad M) (hm : matB M = true) (hL : LaidS w) :
    Calls Tryz.prog 34 #[.slice ad M.length cap] w fun e w' => e = .returned (strV (mtxT M)) ∧ Below w.heap.size w w' := by
  have HRW := Lib.hid (fun k (h : k < M.length) => mat_rows hm _ (getD_memE h))
  have HLN := Lib.hid (fun k => mtxT_len (M := M.take k) (fun r hr => by have := mat_rows hm r (List.mem_of_mem_take hr); exact ⟨this.1.2, this.2⟩))
  have hml := (mat_facts hm).1
  have HST := Lib.hid (fun k (h : k < M.length) => (show mtxT (M.take (k + 1)) = mtxT (M.take k) ++ (numsTxt 32 (M.getD k []) ++ [59]) by rw [takeM_oneE M h, mtxT_snoc]))
  have HR := Lib.hid hr; have HL := Lib.hid hL
  have HA := Lib.hid (add_strM)
  clear hr hm hL
  obtain ⟨n, hn⟩ : ∃ n, M.length = n := ⟨_, rfl⟩
  have HN := Lib.hid hn
  have HF := Lib.hid (show mtxT M = mtxT (M.take n) by rw [← hn, List.take_length])
  rw [hn] at hml HRW HST ⊢
  clear hn
  obtain ⟨R, hR⟩ : ∃ R, strV (mtxT M) = R := ⟨_, rfl⟩
  rw [hR]
  have HRR := Lib.hid hR; clear hR
  have HB0 := Lib.hid (Lib.fresh_isBuilder 85 5 w)
  have hb0 : Below w.heap.size w (w.alloc (.cells #[.pointer none, .slice none 0 0] 85)) := bal_alloc (Below.refl _ _)
  have hz0 : (w.alloc (.cells #[.pointer none, .slice none 0 0] 85)).heap.size = w.heap.size + 1 := by simp
  obtain ⟨bB, hbB⟩ : ∃ bB, w.heap.size = bB := ⟨_, rfl⟩
  rw [hbB] at HB0 hz0
  go_enter Tryz.func34, Tryz.ntmps34
  go_wp2_with fail
  go_loopw [10] (fun i wr => ∃ k : Nat, k ≤ n ∧ i = .int .i64 k ∧ Lib.IsBuilder 85 5 bB bB (Lib.byteCells (mtxT (M.take k))) wr ∧ Below w.heap.size w wr ∧ bB + 1 ≤ wr.heap.size) (fun i _ => n - (intOf i).toNat)
  case atStart => exact ⟨0, Nat.zero_le _, rfl, HB0.out, hb0, by omega⟩
  case round =>
    obtain ⟨wE, rfl⟩ : ∃ x : World, x = wr := ⟨_, rfl⟩
    obtain ⟨k, hk, rfl, hbu, hbel, hsz⟩ := hrel
    have HBU := Lib.hid hbu
    clear hbu HB0
    by_cases hlt : k < n
    case neg =>
      obtain rfl : k = n := by omega
      have CS := Lib.hid (Tryz.Builder_String_any bB bB (mtxT (M.take k)) wE HBU.out (by omega))
      have hfin : (.string ⟨(mtxT (M.take k)).toArray⟩ : Value) = R := by rw [← HF.out]; exact HRR.out
      rw [hfin] at CS
      clear hfin
      go_wp2_with fail
      refine CS.out.mono ?_
      rintro e w2 ⟨rfl, hb2⟩
      rw [← hbB] at hb2
      have hb9 := hbel.trans hb2
      go_wp2_with fail
      go_ret
      exact ⟨rfl, hb9⟩
    case pos =>
      obtain ⟨bM, oM, a, c, rfl, hbM, k0, hri⟩ := HR.out k (by rw [HN.out]; exact hlt)
      have k0 := bcell hbel hbM k0
      obtain ⟨hr1, hr2⟩ := HRW.out k hlt
      have CT := Lib.hid (numbersText_c a c (M.getD k []) 32 wE (hri.below hbel) (by omega) (by omega) hr2 (HL.out.below hbel))
      have htl := nums_len (c := 32) (l := M.getD k []) hr2
      have hst := HST.out k hlt
      have hln := HLN.out k
      rw [List.length_take, HN.out] at hln
      generalize (M.getD k []).length = rl at k0 CT hr1 htl
      generalize numsTxt 32 (M.getD k []) = T at CT htl hst
      generalize mtxT (M.take k) = U at HBU hst hln
      have a1 : ∀ w, (Op.stringOp .add ⟨T.toArray⟩ ⟨#[59]⟩).run Tryz.prog w = .ok (.string ⟨(T ++ [59]).toArray⟩) w := fun w => by
        have := HA.out ⟨T.toArray⟩ ⟨#[59]⟩ (by simp [ByteArray.size]; omega) w
        rw [show (⟨#[59]⟩ : ByteArray) = ⟨([59] : List UInt8).toArray⟩ from rfl, bytes_addM] at this
        exact this
      have hXl : (T ++ [59]).length ≤ 133 := by simp; omega
      have CW := Lib.hid (fun u (hu : Below wE.heap.size wE u) => writeString_c bB bB U (T ++ [59]) u (builder_below HBU.out hu) (by omega) (by have := hu.size; omega))
      have HSTT := Lib.hid hst
      unfold strV at CT
      generalize (⟨(T ++ [59]).toArray⟩ : ByteArray) = X at a1 CW
      generalize T ++ [59] = XL at CW HSTT hXl
      generalize (⟨T.toArray⟩ : ByteArray) = TB at a1 CT
      have x1 : (0 : Int) ≤ (k : Int) := by omega
      have x2 : (k : Int) < (n : Int) := by omega
      clear hri hr2 hst htl hln
      go_wp2_with fail
      refine CT.out.mono ?_
      rintro e w2 ⟨rfl, hb2⟩
      have hs2 := hb2.size
      go_wp2_with fail
      refine (CW.out w2 hb2).mono ?_
      rintro e w3 ⟨⟨v3, rfl⟩, hbu3, hb3⟩
      have hb3' : Below w.heap.size w2 w3 := by rw [hbB]; exact hb3
      have hs3 := hb3.size
      have HBU3 := Lib.hid hbu3
      have hb9 := (ball hbel hb2).trans hb3'
      clear hbu3 hb3
      go_wp2_with fail
      go_roundw
      case rel => exact ⟨k + 1, by omega, by go_num, by rw [HSTT.out]; exact HBU3.out, hb9, by omega⟩
      case measure => simp [intOf]; omega

set_option maxHeartbeats 800000 in
theorem iMatrixText_c (ad : Option Addr) (cap : Nat) (M : List (List Int)) (w : World) (hr : RdM w ad M) (hl : smM M) (hL : LaidS w) :
    Calls Tryz.prog 9 #[.slice ad M.length cap] w fun e w' => e = .returned (.tuple #[strV (mtO M), .bool (matB M)]) ∧ Below w.heap.size w w' := by
  have C := Lib.hid (isMatrix_c ad cap M w hr (by have := hl.1; omega) (fun i hi => by have := hl.2 i hi; omega))
  have CT := Lib.hid (fun (h : matB M = true) u (hb : Below w.heap.size w u) => matrixText_c ad cap M u (hr.below hb) h (hL.below hb))
  unfold mtO
  clear hr hl hL
  generalize matB M = u at C CT ⊢
  generalize M.length = n at C CT ⊢
  cases u
  case false =>
    rw [if_neg (by simp)]
    unfold strV
    clear CT
    go_enter Tryz.func9, Tryz.ntmps9
    go_wp2_with fail
    refine C.out.mono ?_
    rintro e w1 ⟨rfl, hb1⟩
    go_wp2_with fail
    go_ret2
    exact ⟨rfl, hb1⟩
  case true =>
    rw [if_pos rfl]
    have DT := Lib.hid (CT.out rfl)
    clear CT
    generalize mtxT M = T at DT ⊢
    unfold strV at DT ⊢
    go_enter Tryz.func9, Tryz.ntmps9
    go_wp2_with fail
    refine C.out.mono ?_
    rintro e w1 ⟨rfl, hb1⟩
    go_wp2_with fail
    refine (DT.out _ hb1).mono ?_
    rintro e w2 ⟨rfl, hw2⟩
    go_wp2_with fail
    go_ret2
    exact ⟨rfl, ball hb1 hw2⟩
end Go.Proofs.YtfgdhlnmndgjbaaGreatDoor

/-
  Texts of matrices: the reference's. By an AI agent.
-/
namespace Go.Proofs.YtfgdhlnmndgjbaaGreatDoor
open Go.RowKit

theorem join_snocM (c : UInt8) (y : List UInt8) : ∀ {l : List (List UInt8)}, l ≠ [] → Lib.join (l ++ [y]) [c] = Lib.join l [c] ++ (c :: y)
  | [], h => absurd rfl h
  | x :: r, _ => by
    rw [List.cons_append, Lib.join_cons, Lib.join_cons]
    unfold Lib.joinTail
    simp
theorem nums_snocM (c : UInt8) (l : List Int) (n : Int) : numsTxt c (l ++ [n]) = if l = [] then numTxt n else numsTxt c l ++ (c :: numTxt n) := by
  unfold numsTxt
  rw [List.map_append, List.map_cons, List.map_nil]
  split
  · rename_i h; subst h; simp [Lib.join_one]
  · rename_i h; exact join_snocM c _ (by simpa using h)
theorem take_oneM (l : List Int) {k : Nat} (h : k < l.length) : l.take (k + 1) = l.take k ++ [l.getD k 0] := by
  rw [List.take_succ_eq_append_getElem h, List.getD_eq_getElem?_getD, List.getElem?_eq_getElem h]; rfl
theorem strV_mk (l : List UInt8) : strV l = .string ⟨l.toArray⟩ := rfl

set_option maxRecDepth 100000 in
set_option maxHeartbeats 6400000 in
theorem mxText_c (ad : Option Addr) (cap : Nat) (M : List (List Int)) (w : World) (hr : RdM w ad M) (hml : M.length ≤ 7) (hm : ∀ r ∈ M, r.length ≤ 6 ∧ ∀ n ∈ r, numB n = true) :
    Calls Tryz.prog 36 #[.slice ad M.length cap] w fun e w' => e = .returned (strV (mtxT M)) ∧ Below w.heap.size w w' := by
  have HRW := Lib.hid (fun k (h : k < M.length) => hm _ (getD_memE h))
  have HLN := Lib.hid (fun k => mtxT_len (M := M.take k) (fun r hr => hm r (List.mem_of_mem_take hr)))
  have HST := Lib.hid (fun k (h : k < M.length) => (show mtxT (M.take (k + 1)) = mtxT (M.take k) ++ (numsTxt 32 (M.getD k []) ++ [59]) by rw [takeM_oneE M h, mtxT_snoc]))
  have HR := Lib.hid hr
  have HA := Lib.hid (show ∀ (A B : List UInt8), A.length + B.length ≤ 1000000 → ∀ w, (Op.stringOp .add ⟨A.toArray⟩ ⟨B.toArray⟩).run Tryz.prog w = .ok (.string ⟨(A ++ B).toArray⟩) w from fun A B h w => by
    rw [add_strM _ _ (by simp [ByteArray.size]; omega), bytes_addM])
  clear hr hm
  obtain ⟨n, hn⟩ : ∃ n, M.length = n := ⟨_, rfl⟩
  have HN := Lib.hid hn
  have HF := Lib.hid (show mtxT M = mtxT (M.take n) by rw [← hn, List.take_length])
  rw [hn] at hml HRW HST ⊢
  clear hn
  obtain ⟨R, hR⟩ : ∃ R, strV (mtxT M) = R := ⟨_, rfl⟩
  rw [hR]
  have HRR := Lib.hid hR; clear hR
  go_enter Tryz.func36, Tryz.ntmps36
  go_wp2_with fail
  go_loopw [3, 10] (fun v i wr => ∃ k : Nat, k ≤ n ∧ i = .int .i64 k ∧ v = strV (mtxT (M.take k)) ∧ Below w.heap.size w wr) (fun _ i _ => n - (intOf i).toNat)
  case atStart => exact ⟨0, Nat.zero_le _, rfl, rfl, Below.refl _ _⟩
  case round =>
    obtain ⟨wE, rfl⟩ : ∃ x : World, x = wr := ⟨_, rfl⟩
    obtain ⟨k, hk, rfl, rfl, hbel⟩ := hrel
    by_cases hlt : k < n
    case neg =>
      obtain rfl : k = n := by omega
      rw [← HF.out, HRR.out]
      go_wp2_with fail
      go_ret
      exact ⟨rfl, hbel⟩
    case pos =>
      obtain ⟨bM, oM, a, c, rfl, hbM, k0, hri⟩ := HR.out k (by rw [HN.out]; exact hlt)
      have k0 := bcell hbel hbM k0
      obtain ⟨hr1, hr2⟩ := HRW.out k hlt
      have hst := HST.out k hlt
      have hln := HLN.out k
      rw [List.length_take, HN.out] at hln
      have HRI := Lib.hid (hri.below hbel)
      have HR2 := Lib.hid hr2
      generalize M.getD k [] = r at k0 hr1 HR2 HRI hst
      have HNL := Lib.hid (fun j => nums_len (c := 32) (l := r.take j) (fun n hn => HR2.out n (List.mem_of_mem_take hn)))
      generalize mtxT (M.take k) = U at hst hln ⊢
      have HSTT := Lib.hid hst
      obtain ⟨rl, hrl⟩ : ∃ rl, r.length = rl := ⟨_, rfl⟩
      have HRLN := Lib.hid hrl
      have HRF := Lib.hid (show numsTxt 32 r = numsTxt 32 (r.take rl) by rw [← hrl, List.take_length])
      rw [hrl] at k0 hr1
      have x1 : (0 : Int) ≤ (k : Int) := by omega
      have x2 : (k : Int) < (n : Int) := by omega
      have hUl : U.length ≤ 1000 := by omega
      clear hri hr2 hst hln hrl
      go_wp2_with fail
      go_loopw [3, 16] (fun v i wr => ∃ j : Nat, j ≤ rl ∧ i = .int .i64 j ∧ v = strV (U ++ numsTxt 32 (r.take j)) ∧ Below wE.heap.size wE wr) (fun _ i _ => rl - (intOf i).toNat)
      case atStart => exact ⟨0, Nat.zero_le _, rfl, by rw [List.take_zero, show numsTxt 32 [] = [] from rfl, List.append_nil], Below.refl _ _⟩
      case round =>
        obtain ⟨wF, rfl⟩ : ∃ x : World, x = wr := ⟨_, rfl⟩
        obtain ⟨j, hj, rfl, rfl, hbel2⟩ := hrel
        have hnl := HNL.out j
        rw [List.length_take, HRLN.out] at hnl
        by_cases hlj : j < rl
        case neg =>
          obtain rfl : j = rl := by omega
          rw [← HRF.out] at hnl ⊢
          generalize numsTxt 32 r = T at HSTT hnl ⊢
          have a1 := fun w => HA.out (U ++ T) [59] (by simp; omega) w
          have HS2 := Lib.hid (show strV (mtxT (M.take (k + 1))) = .string ⟨(U ++ T ++ [59]).toArray⟩ by rw [HSTT.out, strV_mk, List.append_assoc])
          rw [strV_mk]
          rw [show (⟨([59] : List UInt8).toArray⟩ : ByteArray) = ⟨#[59]⟩ from rfl] at a1
          generalize (⟨(U ++ T ++ [59]).toArray⟩ : ByteArray) = X at a1 HS2
          generalize (⟨(U ++ T).toArray⟩ : ByteArray) = Y at a1 ⊢
          go_wp2_with fail
          go_roundw
          case rel => exact ⟨k + 1, by omega, by go_num, by rw [HS2.out], ball hbel hbel2⟩
          case measure => simp [intOf]; omega
        case pos =>
          obtain ⟨b, off, rfl, hbl, c0⟩ := HRI.out j (by rw [HRLN.out]; exact hlj)
          have d0 := bcell hbel2 hbl c0
          have hnum := HR2.out (r.getD j 0) (by rw [List.getD_eq_getElem?_getD, List.getElem?_eq_getElem (show j < r.length by rw [HRLN.out]; exact hlj)]; exact List.getElem_mem _)
          have hst := nums_snocM 32 (r.take j) (r.getD j 0)
          rw [← take_oneM r (show j < r.length by rw [HRLN.out]; exact hlj)] at hst
          have hne : r.take j = [] ↔ j = 0 := by
            rw [← List.length_eq_zero_iff, List.length_take, HRLN.out]; omega
          generalize r.getD j 0 = y at d0 hnum hst
          have hbd := numB_bd hnum
          have cn := nuText_c y wF (by omega) (by omega)
          have htl := numTxt_lenP hnum
          have y1 : (0 : Int) ≤ (j : Int) := by omega
          have y2 : (j : Int) < (rl : Int) := by omega
          by_cases h0 : j = 0
          · have hnil := hne.2 h0
            rw [if_pos hnil] at hst
            rw [hnil, show numsTxt 32 [] = [] from rfl, List.append_nil]
            have a1 := fun w => HA.out U (numTxt y) (by omega) w
            have HS2 := Lib.hid (show strV (U ++ numsTxt 32 (r.take (j + 1))) = .string ⟨(U ++ numTxt y).toArray⟩ by rw [hst, strV_mk])
            rw [strV_mk] at cn ⊢
            generalize (⟨(U ++ numTxt y).toArray⟩ : ByteArray) = X at a1 HS2
            generalize (⟨(numTxt y).toArray⟩ : ByteArray) = TB at a1 cn
            generalize (⟨U.toArray⟩ : ByteArray) = UB at a1 ⊢
            have CN := Lib.hid cn
            have g1 : decide ((0 : Int) < (j : Int)) = false := decide_eq_false (by omega)
            have g2 : decide (0 < j) = false := decide_eq_false (by omega)
            have g3 : ¬ (0 < j) := by omega
            clear cn hst hne hnil c0 hnum hbd htl h0 hnl
            go_wp2_with fail
            refine CN.out.mono ?_
            rintro e w2 ⟨rfl, hw2⟩
            go_wp2_with fail
            go_roundw
            case rel => exact ⟨j + 1, by omega, by go_num, HS2.out.symm, ball hbel2 hw2⟩
            case measure => simp [intOf]; omega
          · rw [if_neg (fun h => h0 (hne.1 h))] at hst
            generalize numsTxt 32 (r.take j) = T at hst hnl ⊢
            have a1 := fun w => HA.out (U ++ T) [32] (by simp; omega) w
            have a2 := fun w => HA.out (U ++ T ++ [32]) (numTxt y) (by simp; omega) w
            have HS2 := Lib.hid (show strV (U ++ numsTxt 32 (r.take (j + 1))) = .string ⟨(U ++ T ++ [32] ++ numTxt y).toArray⟩ by rw [hst, strV_mk]; simp)
            rw [strV_mk] at cn ⊢
            rw [show (⟨([32] : List UInt8).toArray⟩ : ByteArray) = ⟨#[32]⟩ from rfl] at a1
            generalize (⟨(U ++ T ++ [32] ++ numTxt y).toArray⟩ : ByteArray) = X at a2 HS2
            generalize (⟨(U ++ T ++ [32]).toArray⟩ : ByteArray) = Z at a1 a2
            generalize (⟨(numTxt y).toArray⟩ : ByteArray) = TB at a2 cn
            generalize (⟨(U ++ T).toArray⟩ : ByteArray) = UB at a1 ⊢
            have CN := Lib.hid cn
            have g1 : decide ((0 : Int) < (j : Int)) = true := decide_eq_true (by omega)
            have g2 : decide (0 < j) = true := decide_eq_true (by omega)
            clear cn hst hne c0 hnum hbd htl h0 hnl
            go_wp2_with fail
            refine CN.out.mono ?_
            rintro e w2 ⟨rfl, hw2⟩
            go_wp2_with fail
            go_roundw
            case rel => exact ⟨j + 1, by omega, by go_num, HS2.out.symm, ball hbel2 hw2⟩
            case measure => simp [intOf]; omega

set_option maxHeartbeats 800000 in
theorem sMatrixText_c (ad : Option Addr) (cap : Nat) (M : List (List Int)) (w : World) (hr : RdM w ad M) (hl : smM M) :
    Calls Tryz.prog 10 #[.slice ad M.length cap] w fun e w' => e = .returned (.tuple #[strV (mtO M), .bool (matB M)]) ∧ Below w.heap.size w w' := by
  have C := Lib.hid (mxGood_c ad cap M w hr (by have := hl.1; omega) (fun i hi => by have := hl.2 i hi; omega))
  have CT := Lib.hid (fun (h : matB M = true) => mxText_c ad cap M w hr (by have := (mat_facts h).1; omega) (fun r hr => ⟨(mat_rows h r hr).1.2, (mat_rows h r hr).2⟩))
  unfold mtO
  clear hr hl
  generalize matB M = u at C CT ⊢
  generalize M.length = n at C CT ⊢
  cases u
  case false =>
    rw [if_neg (by simp)]
    unfold strV
    clear CT
    go_enter Tryz.func10, Tryz.ntmps10
    go_wp2_with fail
    refine C.out.mono ?_
    rintro e w1 ⟨rfl, rfl⟩
    go_wp2_with fail
    go_ret2
    exact ⟨rfl, Below.refl _ _⟩
  case true =>
    rw [if_pos rfl]
    have DT := Lib.hid (CT.out rfl)
    clear CT
    generalize mtxT M = T at DT ⊢
    unfold strV at DT ⊢
    go_enter Tryz.func10, Tryz.ntmps10
    go_wp2_with fail
    refine C.out.mono ?_
    rintro e w1 ⟨rfl, rfl⟩
    go_wp2_with fail
    refine DT.out.mono ?_
    rintro e w2 ⟨rfl, hw2⟩
    go_wp2_with fail
    go_ret2
    exact ⟨rfl, hw2⟩
end Go.Proofs.YtfgdhlnmndgjbaaGreatDoor
