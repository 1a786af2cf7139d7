/-
  The reference's reading of a fraction. Printed by gen_frT.py.
-/
import Derived.Test.YtljhdnipllacbaaDoorFrS
namespace Go.Proofs.YtljhdnipllacbaaDoor
open Go.RowKit
set_option maxHeartbeats 1600000 in
theorem frRead_c (s : ByteArray) (w : World) (hmax : s.size ≤ 1048576) :
    Calls Tryd.prog 65 #[.string s] w fun e w' => e = .returned (.int .i64 (frReadF s.toList)) ∧ w = w' := by
  have hlen := len_str s
  have cl := fun w => l1In_any s.size 1 10 w
  have hix := idx_str s
  obtain ⟨l, hl⟩ : ∃ l, s.toList = l := ⟨_, rfl⟩
  rw [hl] at hlen hix ⊢
  obtain ⟨V, hV⟩ : ∃ V, frReadF l = V := ⟨_, rfl⟩
  rw [hV]
  unfold frReadF at hV
  rw [hlen] at hV
  have hin := fun h => inB_t.1 (show inB s.size 1 10 = true from h)
  generalize inB s.size 1 10 = u at cl hV hin
  have CL := Lib.hid cl; have HL := Lib.hid hl; have HIX := Lib.hid hix; clear cl hl hix
  cases u
  case false =>
    rw [if_neg (by simp)] at hV
    subst hV
    go_enter Tryd.func65, Tryd.ntmps65
    go_wp2_with fail
    refine (CL.out _).mono ?_
    rintro e w1 ⟨rfl, rfl⟩
    go_wp2_with fail
    go_ret
    exact ⟨rfl, rfl⟩
  case true =>
    have hb := hin rfl
    clear hin
    have h0 : 0 < s.size := by omega
    have hi0 := fun w => HIX.out 0 h0 w
    rw [if_pos rfl] at hV
    have HLEN := Lib.hid hlen; have HV := Lib.hid hV; clear hlen hV hi0
    go_enter Tryd.func65, Tryd.ntmps65
    go_wp2_with fail
    refine (CL.out _).mono ?_
    rintro e w1 ⟨rfl, rfl⟩
    go_wp2_with fail
    go_loopw [3, 4] (fun n i wr => ∃ k m : Nat, k ≤ s.size ∧ i = .int .i64 k ∧ n = .int .i64 m ∧ Lib.decFrom 0 (l.take k) = some m ∧ w = wr) (fun _ i _ => s.size - (intOf i).toNat)
    case atStart => exact ⟨0, 0, Nat.zero_le _, rfl, rfl, rfl, rfl⟩
    case round =>
      obtain ⟨k, m, hk, rfl, rfl, hm, rfl⟩ := hrel
      have HM := Lib.hid hm
      have hmb := decFrom_bd (by omega) hm
      clear hm
      by_cases hlt : k < s.size
      case neg =>
        have hke : k = s.size := by omega
        have hve := Lib.hid (show (m : Int) = V by
          have h1 := HM.out
          have h2 := HV.out
          rw [hke, ← HLEN.out, List.take_length] at h1
          rw [h1] at h2
          exact h2)
        clear hke
        have g1 : decide ((k : Int) < (s.size : Int)) = false := decide_eq_false (by omega)
        go_wp2_with fail
        go_ret
        exact ⟨ret_int hve.out, rfl⟩
      case pos =>
        have g1 : decide ((k : Int) < (s.size : Int)) = true := decide_eq_true (by omega)
        have hik := fun w => HIX.out k hlt w
        have hbd := u8_bd (l.getD k 0)
        obtain ⟨y, hy⟩ : ∃ y : Nat, (l.getD k 0).toNat = y := ⟨_, rfl⟩
        rw [hy] at hik hbd
        have HY := Lib.hid hy; clear hy
        by_cases hbad : y < 48 ∨ 57 < y
        case pos =>
          have hve := Lib.hid (show (-1 : Int) = V by
            have h2 := HV.out
            rw [decFrom_bad (k := k) (by have := HLEN.out; omega) (by have := HY.out; omega)] at h2
            exact h2)
          by_cases h48 : y < 48
          case pos =>
            have g2 : decide ((y : Int) < 48) = true := decide_eq_true (by omega)
            have HB := Lib.hid hbad; clear hbad
            go_wp2_with fail
            go_ret
            exact ⟨ret_int hve.out, rfl⟩
          case neg =>
            have g2 : decide ((y : Int) < 48) = false := decide_eq_false (by omega)
            have g3 : decide ((57 : Int) < (y : Int)) = true := decide_eq_true (by omega)
            have HB := Lib.hid hbad; clear hbad
            go_wp2_with fail
            go_ret
            exact ⟨ret_int hve.out, rfl⟩
        case neg =>
          have g2 : decide ((y : Int) < 48) = false := decide_eq_false (by omega)
          have g3 : decide ((57 : Int) < (y : Int)) = false := decide_eq_false (by omega)
          have hst := decFrom_step (k := k) (by have := HLEN.out; omega) HM.out (by have := HY.out; omega)
          rw [HY.out] at hst
          obtain ⟨d, hd⟩ : ∃ d : Nat, y = 48 + d := ⟨y - 48, by omega⟩
          have hst2 := Lib.hid (show Lib.decFrom 0 (l.take (k + 1)) = some (10 * m + d) by rw [hst]; congr 1; omega)
          have w1 : IntKind.u8.wrap ((y : Int) - 48) = (d : Int) := by rw [show (y : Int) - 48 = (d : Int) by omega]; exact u8_in (by omega) (by omega)
          have w4 : IntKind.i64.wrap (d : Int) = (d : Int) := i64_small (by omega) (by omega)
          have w2 : IntKind.i64.wrap (10 * (m : Int)) = 10 * (m : Int) := i64_small (by omega) (by omega)
          have w3 : IntKind.i64.wrap (10 * (m : Int) + (d : Int)) = 10 * (m : Int) + (d : Int) := i64_small (by omega) (by omega)
          have HD := Lib.hid hd
          have HB := Lib.hid hbad; clear hbad hst hd
          go_wp2_with fail
          go_roundw
          case rel => exact ⟨k + 1, 10 * m + d, by omega, by go_num, by go_num, hst2.out, trivial⟩
          case measure => simp [intOf]; omega


theorem frReadF_bd (l : List UInt8) : -1 ≤ frReadF l ∧ frReadF l < 10000000000 := by
  unfold frReadF
  split
  · rename_i h
    have h1 := inB_t.1 h
    split
    · rename_i n hn
      have := decFrom_bd (l := l) (k := l.length) (by omega) (by rw [List.take_length]; exact hn)
      omega
    · omega
  · omega

theorem split_len {b : Nat} : ∀ (l : List UInt8), ∀ p ∈ splitB b l, p.length ≤ l.length
  | [], p, h => by simp [splitB] at h; subst h; simp
  | x :: l, p, h => by
    have ih := split_len (b := b) l
    rw [splitB] at h
    split at h
    · rcases List.mem_cons.1 h with h | h
      · subst h; simp
      · have := ih p h; simp; omega
    · revert h ih
      cases splitB b l with
      | nil => intro ih h; simp at h; subst h; simp
      | cons q qs =>
        intro ih h
        rcases List.mem_cons.1 h with h | h
        · subst h; have := ih q (by simp); simp; exact this
        · have := ih p (List.mem_cons_of_mem _ h); simp; omega
theorem split_ne {b : Nat} : ∀ (l : List UInt8), 0 < (splitB b l).length
  | [] => by simp [splitB]
  | x :: l => by
    rw [splitB]
    split
    · simp
    · split <;> simp
theorem strs_get {D : List ByteArray} {i : Nat} (h : i < D.length) : (strs D)[i]? = some (.string (D.getD i default)) := by
  unfold strs
  rw [List.getElem?_map, List.getElem?_eq_getElem h, List.getD_eq_getElem?_getD, List.getElem?_eq_getElem h]
  rfl
theorem minusB_f {a : List UInt8} (h : (a.getD 0 0).toNat ≠ 45) : minusB a = false := by
  cases a with
  | nil => rfl
  | cons x t => exact decide_eq_false (by simpa using h)
theorem minusB_tr {a : List UInt8} (h0 : 0 < a.length) (h : (a.getD 0 0).toNat = 45) : minusB a = true := by
  cases a with
  | nil => simp at h0
  | cons x t => exact decide_eq_true (by simpa using h)
theorem FrO.set0 {w : World} {g : Nat} {f : Fr} (h : FrO w g f) (a : Int) : FrO (w.setCell ⟨g, 0, none⟩ (.int .i64 a)) g ⟨a, f.d⟩ := Own.set h 0 (.int .i64 a)
theorem FrO.set1 {w : World} {g : Nat} {f : Fr} (h : FrO w g f) (a : Int) : FrO (w.setCell ⟨g, 1, none⟩ (.int .i64 a)) g ⟨f.n, a⟩ := Own.set h 1 (.int .i64 a)
theorem FrO.setO {w : World} {g : Nat} {f : Fr} (h : FrO w g f) {a : Addr} (ha : g ≠ a.block) (v : Value) : FrO (w.setCell a v) g f := Own.setOther h ha v
theorem below_set {u w : World} {B : Nat} {a : Addr} (h : Below B u w) (hB : B ≤ a.block) (_ : B ≤ w.heap.size) (v : Value) : Below B u (w.setCell a v) := h.setCell hB v

set_option maxHeartbeats 6400000 in
set_option maxRecDepth 100000 in
theorem frParse_c (s : ByteArray) (w : World) (hs : s.size ≤ 1000) :
    Calls Tryd.prog 52 #[.string s] w fun e w' => e = .returned (frR (parW s.toList) (fparW s.toList)) ∧ Below w.heap.size w w' := by
  have cs := fun w => splitB_c 47 s w (by omega)
  have hlen := len_str s
  obtain ⟨l, hl⟩ : ∃ l, s.toList = l := ⟨_, rfl⟩
  rw [hl] at cs hlen ⊢
  have hF : fparW l = (decide ((splitB 47 l).length ≤ 2) && (frB (parW l) && decide (frTxt (parW l) = l))) := rfl
  have hX : (parW l).n = numW ((splitB 47 l).getD 0 []) := rfl
  have hY : (parW l).d = if (splitB 47 l).length = 2 then frReadF ((splitB 47 l).getD 1 []) else 1 := rfl
  have hne := split_ne (b := 47) l
  have hsl := split_len (b := 47) l
  generalize fparW l = K at hF ⊢
  have cg := fun w => frGood_c (parW l) w
  have ct := fun w h => frText_s (parW l) w h
  generalize splitB 47 l = SL at cs hF hX hY hne hsl
  generalize parW l = P at hF hX hY cg ct ⊢
  obtain ⟨X, Y⟩ := P
  generalize frB ⟨X, Y⟩ = u at hF cg ct
  generalize frTxt ⟨X, Y⟩ = T at hF ct
  unfold frR frV Fr.z strV at *
  simp only at hX hY cg ct ⊢
  have hneq : (T == l) = decide (T = l) := Bool.eq_iff_iff.2 (by rw [beq_iff_eq, decide_eq_true_iff])
  generalize decide (T = l) = Q at hF hneq
  have CS := Lib.hid cs; have CG := Lib.hid cg; have CT := Lib.hid ct; have HF := Lib.hid hF; have HX := Lib.hid hX; have HY := Lib.hid hY; have HNE := Lib.hid hne; have HSL := Lib.hid hsl; have HLEN := Lib.hid hlen; clear cs cg ct hF hX hY hne hsl hlen
  have hb0 : Below w.heap.size w (w.alloc (.cells #[.int .i64 0, .int .i64 0] 24)) := (Below.refl _ _).alloc (Nat.le_refl _) _
  have o0 := FrO.new w 0 0 rfl
  obtain ⟨g0, hg0⟩ : ∃ g, w.heap.size = g := ⟨_, rfl⟩
  go_enter Tryd.func52, Tryd.ntmps52
  go_wp2_with fail
  refine (CS.out _).mono ?_
  rintro e w1 ⟨⟨v1, D, rfl, hrow, hDS, -⟩, hw1⟩
  have o1 := o0.below hw1
  have hb1 := hb0.trans (hw1.mono hb0.size)
  have hgs := hw1.size
  have hDL : D.length = SL.length := by rw [← hDS, List.length_map]
  obtain ⟨g, cap, rfl, hg1, ho⟩ : ∃ g cap, v1 = .slice (some ⟨g, 0, none⟩) D.length cap ∧ w.heap.size + 1 ≤ g ∧ Own w1 g 9 (strs D) := by
    rcases Own.of_row hrow with ⟨_, h0, _⟩ | ⟨g, cap, h, hg, _, _, ho⟩
    · exact absurd h0 (by have := HNE.out; omega)
    · exact ⟨g, cap, h, by simpa using hg, ho⟩
  have hglt := ho.lt
  have hc0 := strs_get (D := D) (i := 0) (by have := HNE.out; omega)
  have hA0 : (D.getD 0 default).toList = SL.getD 0 [] := by
    rw [← hDS, List.getD_eq_getElem?_getD, List.getD_eq_getElem?_getD, List.getElem?_map, List.getElem?_eq_getElem (by have := HNE.out; omega)]; rfl
  have hA1 : 1 < D.length → (D.getD 1 default).toList = SL.getD 1 [] ∧ (strs D)[1]? = some (.string (D.getD 1 default)) := fun h => by
    refine ⟨?_, strs_get h⟩
    rw [← hDS, List.getD_eq_getElem?_getD, List.getD_eq_getElem?_getD, List.getElem?_map, List.getElem?_eq_getElem h]; rfl
  have hsz : ∀ i, i < SL.length → (SL.getD i []).length ≤ 1000 := fun i hi => by
    have h1 := HSL.out (SL.getD i []) (by rw [List.getD_eq_getElem?_getD, List.getElem?_eq_getElem hi]; exact List.getElem_mem hi)
    have := HLEN.out
    omega
  have hsA := hsz 0 HNE.out
  rw [← hA0, len_str] at hsA
  generalize D.getD 0 default = A at hc0 hA0 hsA
  have hsB : 1 < D.length → (D.getD 1 default).size ≤ 1000 := fun h => by
    have h1 := hsz 1 (by omega)
    rwa [← (hA1 h).1, len_str] at h1
  generalize D.getD 1 default = Bb at hA1 hsB
  have hFN : K = (decide (D.length ≤ 2) && (u && Q)) := by rw [HF.out, hDL]
  have hYN : Y = if D.length = 2 then frReadF (SL.getD 1 []) else 1 := by rw [HY.out, hDL]
  have hpos : 0 < D.length := by have := HNE.out; omega
  generalize hDN : D.length = N at hA1 hsB hFN hYN hpos ⊢
  have HO := Lib.hid ho; have HA0 := Lib.hid hA0; have HA1 := Lib.hid hA1; have HSB := Lib.hid hsB; have HFN := Lib.hid hFN; have HYN := Lib.hid hYN
  clear hrow hDS ho hDL hA0 hA1 hsB hFN hYN hsz hDN HF HY HNE HSL CS hw1 o0 hb0
  have o2 := o1.alloc (.cells #[.int .i64 0, .int .i64 1] 24)
  have f2 := FrO.new w1 0 1 rfl
  have O2 := Lib.hid (HO.out.alloc (.cells #[.int .i64 0, .int .i64 1] 24))
  have hb2 := bal_alloc (o := (.cells #[.int .i64 0, .int .i64 1] 24)) hb1
  obtain ⟨g5, hg5⟩ : ∃ g, w1.heap.size = g := ⟨_, rfl⟩
  have c20 := O2.out.cell? hc0
  have q20 := O2.out.frozen 0
  rw [hg5] at f2 hglt
  have n1 : g ≠ g5 := by omega
  have n2 : g0 ≠ g5 := by simp at hgs; omega
  have n3 : g0 ≠ g := by omega
  have n4 : g5 ≠ g := by omega
  have n5 : w.heap.size ≤ g := by omega
  have n6 : w.heap.size ≤ g5 := by simp at hgs; omega
  have n7 : w.heap.size ≤ g0 := by omega
  rw [hg0] at o1 o2
  clear hgs
  obtain ⟨a, ha⟩ : ∃ a, A.toList = a := ⟨_, rfl⟩
  have hla := len_str A
  rw [ha] at hla
  have haS : SL.getD 0 [] = a := by rw [← HA0.out, ha]
  have hXa : X = numW a := by rw [HX.out, haS]
  have cr := fun w => frRead_c A w (by omega)
  rw [ha] at cr
  clear HX haS
  by_cases h0 : 0 < a.length
  case neg =>
    obtain rfl : a = [] := List.eq_nil_of_length_eq_zero (by omega)
    have hXr : X = frReadF [] := by rw [hXa]; rfl
    rw [← hXr] at cr
    have hrb := frReadF_bd []
    rw [← hXr] at hrb
    have k0 : (A.toList == []) = true := by rw [ha]; rfl
    have k3 : IntKind.i64.wrap X = X := i64_small (by omega) (by omega)
    have k4 : IntKind.i64.wrap (1 * X) = X := by rw [Int.one_mul]; exact k3
    have C1 := Lib.hid cr
    have HA := Lib.hid hla; clear cr hla hXa hXr hrb h0 hsA
    go_wp2_with fail
    have o3 := o2
    have f3 := f2
    have O3 := O2
    have hb3 := hb2
    clear o2 f2 O2 hb2 c20 q20
    generalize hwA : w1.alloc (.cells #[.int .i64 0, .int .i64 1] 24) = wA at o3 f3 O3 hb3 ⊢
    clear hwA
    refine (C1.out _).mono ?_
    rintro e w' ⟨rfl, rfl⟩
    have o4 := o3.setO (a := ⟨g5, 0, none⟩) n2 (.int .i64 X)
    have f4 := f3.set0 X
    have O4 := Lib.hid (O3.out.setOther (a := ⟨g5, 0, none⟩) n1 (.int .i64 X))
    have hb4 := below_set (a := ⟨g5, 0, none⟩) hb3 n6 hb3.size (.int .i64 X)
    obtain ⟨u0, u1⟩ := f3.fr
    obtain ⟨v0, v1⟩ := f3.at
    simp only at f4
    have h3 : N = 1 ∨ N = 2 ∨ 2 < N := by omega
    rcases h3 with rfl | rfl | hN2
    · obtain rfl : Y = 1 := by rw [HYN.out]; rfl
      obtain ⟨x0, x1⟩ := f4.at
      go_wp2_with fail
      generalize hwB : wA.setCell ⟨g5, 0, none⟩ (.int .i64 X) = wB at o4 f4 O4 hb4 x0 x1 ⊢
      clear hwB x0 x1
      have o5 := o4
      have f5 := f4
      have hb5 := hb4
      clear o4 f4 O4 hb4
      refine (CG.out _).mono ?_
      rintro e w5 ⟨rfl, hw5⟩
      have o6 := o5.below hw5
      have f6 := f5.below hw5
      have hb6 := ball hb5 hw5
      clear hw5 o5 f5 hb5
      obtain ⟨x0, x1⟩ := o6.at
      obtain ⟨y0, y1⟩ := o6.fr
      obtain ⟨z0, z1⟩ := f6.at
      cases u
      case false =>
        obtain rfl : K = false := by rw [HFN.out]; simp
        go_wp2_with fail
        obtain ⟨W, hW, ⟨q0, q1⟩, hB⟩ := fr2_end (a := 0) (b := 0) o6 hb6 n7
        unfold fr2 at hW
        rw [hW]
        exact bodyPost_ret (v := .tuple #[.agg #[.int .i64 0, .int .i64 0], .bool false]) (by simp [results, Tryd.results52, go_sem, q0, q1]) rfl ⟨rfl, by first | exact hB | (rw [← hg0]; exact hB)⟩
      case true =>
        go_wp2_with fail
        refine (CT.out _ trivial).mono ?_
        rintro e w7 ⟨rfl, hw7⟩
        have o7 := o6.below hw7
        have f7 := f6.below hw7
        have hb7 := ball hb6 hw7
        clear hw7 o6 f6 hb6 x0 x1 y0 y1 z0 z1
        obtain ⟨x0, x1⟩ := o7.at
        obtain ⟨y0, y1⟩ := o7.fr
        obtain ⟨z0, z1⟩ := f7.at
        cases Q
        case false =>
          obtain rfl : K = false := by rw [HFN.out]; simp
          go_wp2_with fail
          obtain ⟨W, hW, ⟨q0, q1⟩, hB⟩ := fr2_end (a := 0) (b := 0) o7 hb7 n7
          unfold fr2 at hW
          rw [hW]
          exact bodyPost_ret (v := .tuple #[.agg #[.int .i64 0, .int .i64 0], .bool false]) (by simp [results, Tryd.results52, go_sem, q0, q1]) rfl ⟨rfl, by first | exact hB | (rw [← hg0]; exact hB)⟩
        case true =>
          obtain rfl : K = true := by rw [HFN.out]; simp
          go_wp2_with fail
          obtain ⟨W, hW, ⟨q0, q1⟩, hB⟩ := fr2_end (a := X) (b := 1) o7 hb7 n7
          unfold fr2 at hW
          rw [hW]
          exact bodyPost_ret (v := .tuple #[.agg #[.int .i64 X, .int .i64 1], .bool true]) (by simp [results, Tryd.results52, go_sem, q0, q1]) rfl ⟨rfl, by first | exact hB | (rw [← hg0]; exact hB)⟩
    · have hYe : Y = frReadF (SL.getD 1 []) := by rw [HYN.out]; rfl
      have c1 := fun w => frRead_c Bb w (by have := HSB.out (by omega); omega)
      rw [(HA1.out (by omega)).1, ← hYe] at c1
      have C2 := Lib.hid c1; clear c1
      have c41 := O4.out.cell? (i := 1) (v := .string Bb) (by first | exact (HA1.out (by omega)).2 | (rw [List.getElem?_set_ne (by decide)]; exact (HA1.out (by omega)).2))
      have HYE := Lib.hid hYe; clear hYe
      go_wp2_with fail
      refine (C2.out _).mono ?_
      rintro e w' ⟨rfl, rfl⟩
      clear c41
      generalize hwB : wA.setCell ⟨g5, 0, none⟩ (.int .i64 X) = wB at o4 f4 O4 hb4 ⊢
      clear hwB u0 u1 v0 v1
      have o5 := o4.setO (a := ⟨g5, 1, none⟩) n2 (.int .i64 Y)
      have f5 := f4.set1 Y
      simp only at f5
      have hb5 := below_set (a := ⟨g5, 1, none⟩) hb4 n6 hb4.size (.int .i64 Y)
      obtain ⟨u0, u1⟩ := f4.fr
      obtain ⟨v0, v1⟩ := f4.at
      obtain ⟨x0, x1⟩ := f5.at
      go_wp2_with fail
      generalize hwC : wB.setCell ⟨g5, 1, none⟩ (.int .i64 Y) = wC at o5 f5 hb5 x0 x1 ⊢
      clear hwC x0 x1 o4 f4 O4 hb4
      refine (CG.out _).mono ?_
      rintro e w5 ⟨rfl, hw5⟩
      have o6 := o5.below hw5
      have f6 := f5.below hw5
      have hb6 := ball hb5 hw5
      clear hw5 o5 f5 hb5
      obtain ⟨x0, x1⟩ := o6.at
      obtain ⟨y0, y1⟩ := o6.fr
      obtain ⟨z0, z1⟩ := f6.at
      cases u
      case false =>
        obtain rfl : K = false := by rw [HFN.out]; simp
        go_wp2_with fail
        obtain ⟨W, hW, ⟨q0, q1⟩, hB⟩ := fr2_end (a := 0) (b := 0) o6 hb6 n7
        unfold fr2 at hW
        rw [hW]
        exact bodyPost_ret (v := .tuple #[.agg #[.int .i64 0, .int .i64 0], .bool false]) (by simp [results, Tryd.results52, go_sem, q0, q1]) rfl ⟨rfl, by first | exact hB | (rw [← hg0]; exact hB)⟩
      case true =>
        go_wp2_with fail
        refine (CT.out _ trivial).mono ?_
        rintro e w7 ⟨rfl, hw7⟩
        have o7 := o6.below hw7
        have f7 := f6.below hw7
        have hb7 := ball hb6 hw7
        clear hw7 o6 f6 hb6 x0 x1 y0 y1 z0 z1
        obtain ⟨x0, x1⟩ := o7.at
        obtain ⟨y0, y1⟩ := o7.fr
        obtain ⟨z0, z1⟩ := f7.at
        cases Q
        case false =>
          obtain rfl : K = false := by rw [HFN.out]; simp
          go_wp2_with fail
          obtain ⟨W, hW, ⟨q0, q1⟩, hB⟩ := fr2_end (a := 0) (b := 0) o7 hb7 n7
          unfold fr2 at hW
          rw [hW]
          exact bodyPost_ret (v := .tuple #[.agg #[.int .i64 0, .int .i64 0], .bool false]) (by simp [results, Tryd.results52, go_sem, q0, q1]) rfl ⟨rfl, by first | exact hB | (rw [← hg0]; exact hB)⟩
        case true =>
          obtain rfl : K = true := by rw [HFN.out]; simp
          go_wp2_with fail
          obtain ⟨W, hW, ⟨q0, q1⟩, hB⟩ := fr2_end (a := X) (b := Y) o7 hb7 n7
          unfold fr2 at hW
          rw [hW]
          exact bodyPost_ret (v := .tuple #[.agg #[.int .i64 X, .int .i64 Y], .bool true]) (by simp [results, Tryd.results52, go_sem, q0, q1]) rfl ⟨rfl, by first | exact hB | (rw [← hg0]; exact hB)⟩
    · obtain rfl : K = false := by rw [HFN.out, decide_eq_false (by omega)]; rfl
      have k1 : ((N : Int) == 2) = false := beq_eq_false_iff_ne.2 (by omega)
      have k2 : decide ((2 : Int) < (N : Int)) = true := decide_eq_true (by omega)
      obtain ⟨x0, x1⟩ := o4.at
      obtain ⟨y0, y1⟩ := o4.fr
      clear hN2
      go_wp2_with fail
      obtain ⟨W, hW, ⟨q0, q1⟩, hB⟩ := fr2_end (a := 0) (b := 0) o4 hb4 n7
      unfold fr2 at hW
      rw [hW]
      exact bodyPost_ret (v := .tuple #[.agg #[.int .i64 0, .int .i64 0], .bool false]) (by simp [results, Tryd.results52, go_sem, q0, q1]) rfl ⟨rfl, by first | exact hB | (rw [← hg0]; exact hB)⟩
  case pos =>
    have hne0 : (A.toList == []) = false := by rw [ha]; exact beq_eq_false_iff_ne.2 (fun e => by rw [e] at h0; simp at h0)
    have hie : a.isEmpty = false := by cases a with
      | nil => simp at h0
      | cons x t => rfl
    have hi0 := fun w => idx_str A 0 (by omega) w
    rw [ha] at hi0
    by_cases h45 : (a.getD 0 0).toNat = 45
    case neg =>
      have hXr : X = frReadF a := by rw [hXa]; unfold numW; rw [minusB_f h45, if_neg (by simp)]
      rw [← hXr] at cr
      have hrb := frReadF_bd a
      rw [← hXr] at hrb
      have k3 : IntKind.i64.wrap X = X := i64_small (by omega) (by omega)
      have k4 : IntKind.i64.wrap (1 * X) = X := by rw [Int.one_mul]; exact k3
      obtain ⟨z, hz⟩ : ∃ z : Nat, (a.getD 0 0).toNat = z := ⟨_, rfl⟩
      rw [hz] at hi0 h45
      have hi1 : ∀ w, (Instr.index 9 (.string A) (.int .i64 (0 : Int))).run Tryd.prog w = .ok (.int .u8 (z : Int)) w := fun w => hi0 w
      have k5 : ((z : Int) == 45) = false := beq_eq_false_iff_ne.2 (by omega)
      have C1 := Lib.hid cr
      have HA := Lib.hid hla; have HZ := Lib.hid hz; clear cr hla hXa hXr hrb h0 hsA hi0 h45 hz
      go_wp2_with fail
      have o3 := o2
      have f3 := f2
      have O3 := O2
      have hb3 := hb2
      clear o2 f2 O2 hb2 c20 q20
      generalize hwA : w1.alloc (.cells #[.int .i64 0, .int .i64 1] 24) = wA at o3 f3 O3 hb3 ⊢
      clear hwA
      refine (C1.out _).mono ?_
      rintro e w' ⟨rfl, rfl⟩
      have o4 := o3.setO (a := ⟨g5, 0, none⟩) n2 (.int .i64 X)
      have f4 := f3.set0 X
      have O4 := Lib.hid (O3.out.setOther (a := ⟨g5, 0, none⟩) n1 (.int .i64 X))
      have hb4 := below_set (a := ⟨g5, 0, none⟩) hb3 n6 hb3.size (.int .i64 X)
      obtain ⟨u0, u1⟩ := f3.fr
      obtain ⟨v0, v1⟩ := f3.at
      simp only at f4
      have h3 : N = 1 ∨ N = 2 ∨ 2 < N := by omega
      rcases h3 with rfl | rfl | hN2
      · obtain rfl : Y = 1 := by rw [HYN.out]; rfl
        obtain ⟨x0, x1⟩ := f4.at
        go_wp2_with fail
        generalize hwB : wA.setCell ⟨g5, 0, none⟩ (.int .i64 X) = wB at o4 f4 O4 hb4 x0 x1 ⊢
        clear hwB x0 x1
        have o5 := o4
        have f5 := f4
        have hb5 := hb4
        clear o4 f4 O4 hb4
        refine (CG.out _).mono ?_
        rintro e w5 ⟨rfl, hw5⟩
        have o6 := o5.below hw5
        have f6 := f5.below hw5
        have hb6 := ball hb5 hw5
        clear hw5 o5 f5 hb5
        obtain ⟨x0, x1⟩ := o6.at
        obtain ⟨y0, y1⟩ := o6.fr
        obtain ⟨z0, z1⟩ := f6.at
        cases u
        case false =>
          obtain rfl : K = false := by rw [HFN.out]; simp
          go_wp2_with fail
          obtain ⟨W, hW, ⟨q0, q1⟩, hB⟩ := fr2_end (a := 0) (b := 0) o6 hb6 n7
          unfold fr2 at hW
          rw [hW]
          exact bodyPost_ret (v := .tuple #[.agg #[.int .i64 0, .int .i64 0], .bool false]) (by simp [results, Tryd.results52, go_sem, q0, q1]) rfl ⟨rfl, by first | exact hB | (rw [← hg0]; exact hB)⟩
        case true =>
          go_wp2_with fail
          refine (CT.out _ trivial).mono ?_
          rintro e w7 ⟨rfl, hw7⟩
          have o7 := o6.below hw7
          have f7 := f6.below hw7
          have hb7 := ball hb6 hw7
          clear hw7 o6 f6 hb6 x0 x1 y0 y1 z0 z1
          obtain ⟨x0, x1⟩ := o7.at
          obtain ⟨y0, y1⟩ := o7.fr
          obtain ⟨z0, z1⟩ := f7.at
          cases Q
          case false =>
            obtain rfl : K = false := by rw [HFN.out]; simp
            go_wp2_with fail
            obtain ⟨W, hW, ⟨q0, q1⟩, hB⟩ := fr2_end (a := 0) (b := 0) o7 hb7 n7
            unfold fr2 at hW
            rw [hW]
            exact bodyPost_ret (v := .tuple #[.agg #[.int .i64 0, .int .i64 0], .bool false]) (by simp [results, Tryd.results52, go_sem, q0, q1]) rfl ⟨rfl, by first | exact hB | (rw [← hg0]; exact hB)⟩
          case true =>
            obtain rfl : K = true := by rw [HFN.out]; simp
            go_wp2_with fail
            obtain ⟨W, hW, ⟨q0, q1⟩, hB⟩ := fr2_end (a := X) (b := 1) o7 hb7 n7
            unfold fr2 at hW
            rw [hW]
            exact bodyPost_ret (v := .tuple #[.agg #[.int .i64 X, .int .i64 1], .bool true]) (by simp [results, Tryd.results52, go_sem, q0, q1]) rfl ⟨rfl, by first | exact hB | (rw [← hg0]; exact hB)⟩
      · have hYe : Y = frReadF (SL.getD 1 []) := by rw [HYN.out]; rfl
        have c1 := fun w => frRead_c Bb w (by have := HSB.out (by omega); omega)
        rw [(HA1.out (by omega)).1, ← hYe] at c1
        have C2 := Lib.hid c1; clear c1
        have c41 := O4.out.cell? (i := 1) (v := .string Bb) (by first | exact (HA1.out (by omega)).2 | (rw [List.getElem?_set_ne (by decide)]; exact (HA1.out (by omega)).2))
        have HYE := Lib.hid hYe; clear hYe
        go_wp2_with fail
        refine (C2.out _).mono ?_
        rintro e w' ⟨rfl, rfl⟩
        clear c41
        generalize hwB : wA.setCell ⟨g5, 0, none⟩ (.int .i64 X) = wB at o4 f4 O4 hb4 ⊢
        clear hwB u0 u1 v0 v1
        have o5 := o4.setO (a := ⟨g5, 1, none⟩) n2 (.int .i64 Y)
        have f5 := f4.set1 Y
        simp only at f5
        have hb5 := below_set (a := ⟨g5, 1, none⟩) hb4 n6 hb4.size (.int .i64 Y)
        obtain ⟨u0, u1⟩ := f4.fr
        obtain ⟨v0, v1⟩ := f4.at
        obtain ⟨x0, x1⟩ := f5.at
        go_wp2_with fail
        generalize hwC : wB.setCell ⟨g5, 1, none⟩ (.int .i64 Y) = wC at o5 f5 hb5 x0 x1 ⊢
        clear hwC x0 x1 o4 f4 O4 hb4
        refine (CG.out _).mono ?_
        rintro e w5 ⟨rfl, hw5⟩
        have o6 := o5.below hw5
        have f6 := f5.below hw5
        have hb6 := ball hb5 hw5
        clear hw5 o5 f5 hb5
        obtain ⟨x0, x1⟩ := o6.at
        obtain ⟨y0, y1⟩ := o6.fr
        obtain ⟨z0, z1⟩ := f6.at
        cases u
        case false =>
          obtain rfl : K = false := by rw [HFN.out]; simp
          go_wp2_with fail
          obtain ⟨W, hW, ⟨q0, q1⟩, hB⟩ := fr2_end (a := 0) (b := 0) o6 hb6 n7
          unfold fr2 at hW
          rw [hW]
          exact bodyPost_ret (v := .tuple #[.agg #[.int .i64 0, .int .i64 0], .bool false]) (by simp [results, Tryd.results52, go_sem, q0, q1]) rfl ⟨rfl, by first | exact hB | (rw [← hg0]; exact hB)⟩
        case true =>
          go_wp2_with fail
          refine (CT.out _ trivial).mono ?_
          rintro e w7 ⟨rfl, hw7⟩
          have o7 := o6.below hw7
          have f7 := f6.below hw7
          have hb7 := ball hb6 hw7
          clear hw7 o6 f6 hb6 x0 x1 y0 y1 z0 z1
          obtain ⟨x0, x1⟩ := o7.at
          obtain ⟨y0, y1⟩ := o7.fr
          obtain ⟨z0, z1⟩ := f7.at
          cases Q
          case false =>
            obtain rfl : K = false := by rw [HFN.out]; simp
            go_wp2_with fail
            obtain ⟨W, hW, ⟨q0, q1⟩, hB⟩ := fr2_end (a := 0) (b := 0) o7 hb7 n7
            unfold fr2 at hW
            rw [hW]
            exact bodyPost_ret (v := .tuple #[.agg #[.int .i64 0, .int .i64 0], .bool false]) (by simp [results, Tryd.results52, go_sem, q0, q1]) rfl ⟨rfl, by first | exact hB | (rw [← hg0]; exact hB)⟩
          case true =>
            obtain rfl : K = true := by rw [HFN.out]; simp
            go_wp2_with fail
            obtain ⟨W, hW, ⟨q0, q1⟩, hB⟩ := fr2_end (a := X) (b := Y) o7 hb7 n7
            unfold fr2 at hW
            rw [hW]
            exact bodyPost_ret (v := .tuple #[.agg #[.int .i64 X, .int .i64 Y], .bool true]) (by simp [results, Tryd.results52, go_sem, q0, q1]) rfl ⟨rfl, by first | exact hB | (rw [← hg0]; exact hB)⟩
      · obtain rfl : K = false := by rw [HFN.out, decide_eq_false (by omega)]; rfl
        have k1 : ((N : Int) == 2) = false := beq_eq_false_iff_ne.2 (by omega)
        have k2 : decide ((2 : Int) < (N : Int)) = true := decide_eq_true (by omega)
        obtain ⟨x0, x1⟩ := o4.at
        obtain ⟨y0, y1⟩ := o4.fr
        clear hN2
        go_wp2_with fail
        obtain ⟨W, hW, ⟨q0, q1⟩, hB⟩ := fr2_end (a := 0) (b := 0) o4 hb4 n7
        unfold fr2 at hW
        rw [hW]
        exact bodyPost_ret (v := .tuple #[.agg #[.int .i64 0, .int .i64 0], .bool false]) (by simp [results, Tryd.results52, go_sem, q0, q1]) rfl ⟨rfl, by first | exact hB | (rw [← hg0]; exact hB)⟩
    case pos =>
      clear cr
      have cr := fun w => frRead_c (A.extract 1 A.size) w (by simp; omega)
      rw [ext_toList, ha] at cr
      have hXr : X = -frReadF (a.drop 1) := by rw [hXa]; unfold numW; rw [minusB_tr h0 h45, if_pos rfl]
      have hrb := frReadF_bd (a.drop 1)
      generalize frReadF (a.drop 1) = r at cr hXr hrb
      have k3 : IntKind.i64.wrap (-r) = X := by rw [hXr]; exact i64_small (by omega) (by omega)
      have k4 : IntKind.i64.wrap (-1 * r) = X := by rw [Int.neg_mul, Int.one_mul]; exact k3
      rw [h45] at hi0
      have hi1 : ∀ w, (Instr.index 9 (.string A) (.int .i64 (0 : Int))).run Tryd.prog w = .ok (.int .u8 45) w := fun w => hi0 w
      have hsl := fun w => slice_from A 1 (by omega) (by omega) w
      rw [show (1 : Int).toNat = 1 from rfl] at hsl
      generalize A.extract 1 A.size = A' at cr hsl
      have C1 := Lib.hid cr
      have HA := Lib.hid hla; clear cr hla hXa hXr hrb h0 hsA hi0 h45
      have o3 := (o1.setO (a := ⟨g, 0, none⟩) n3 (.string A')).alloc (.cells #[.int .i64 0, .int .i64 1] 24)
      have f3 := FrO.new (g := g5) (w1.setCell ⟨g, 0, none⟩ (.string A')) 0 1 (by rw [← hg5]; simp [World.setCell])
      have O3 := Lib.hid ((HO.out.set 0 (.string A')).alloc (.cells #[.int .i64 0, .int .i64 1] 24))
      have hb3 := bal_alloc (o := (.cells #[.int .i64 0, .int .i64 1] 24)) (below_set (a := ⟨g, 0, none⟩) hb1 n5 hb1.size (.string A'))
      have c30 := O3.out.cell? (i := 0) (v := .string A') (by rw [List.getElem?_set_self (by have := hc0; (rcases List.getElem?_eq_some_iff.1 this with ⟨h, _⟩; exact h))])
      go_wp2_with fail
      clear o2 f2 O2 hb2 c20 q20 c30
      generalize hwA : (w1.setCell ⟨g, 0, none⟩ (.string A')).alloc (.cells #[.int .i64 0, .int .i64 1] 24) = wA at o3 f3 O3 hb3 ⊢
      clear hwA
      refine (C1.out _).mono ?_
      rintro e w' ⟨rfl, rfl⟩
      have o4 := o3.setO (a := ⟨g5, 0, none⟩) n2 (.int .i64 X)
      have f4 := f3.set0 X
      have O4 := Lib.hid (O3.out.setOther (a := ⟨g5, 0, none⟩) n1 (.int .i64 X))
      have hb4 := below_set (a := ⟨g5, 0, none⟩) hb3 n6 hb3.size (.int .i64 X)
      obtain ⟨u0, u1⟩ := f3.fr
      obtain ⟨v0, v1⟩ := f3.at
      simp only at f4
      have h3 : N = 1 ∨ N = 2 ∨ 2 < N := by omega
      rcases h3 with rfl | rfl | hN2
      · obtain rfl : Y = 1 := by rw [HYN.out]; rfl
        obtain ⟨x0, x1⟩ := f4.at
        go_wp2_with fail
        generalize hwB : wA.setCell ⟨g5, 0, none⟩ (.int .i64 X) = wB at o4 f4 O4 hb4 x0 x1 ⊢
        clear hwB x0 x1
        have o5 := o4
        have f5 := f4
        have hb5 := hb4
        clear o4 f4 O4 hb4
        refine (CG.out _).mono ?_
        rintro e w5 ⟨rfl, hw5⟩
        have o6 := o5.below hw5
        have f6 := f5.below hw5
        have hb6 := ball hb5 hw5
        clear hw5 o5 f5 hb5
        obtain ⟨x0, x1⟩ := o6.at
        obtain ⟨y0, y1⟩ := o6.fr
        obtain ⟨z0, z1⟩ := f6.at
        cases u
        case false =>
          obtain rfl : K = false := by rw [HFN.out]; simp
          go_wp2_with fail
          obtain ⟨W, hW, ⟨q0, q1⟩, hB⟩ := fr2_end (a := 0) (b := 0) o6 hb6 n7
          unfold fr2 at hW
          rw [hW]
          exact bodyPost_ret (v := .tuple #[.agg #[.int .i64 0, .int .i64 0], .bool false]) (by simp [results, Tryd.results52, go_sem, q0, q1]) rfl ⟨rfl, by first | exact hB | (rw [← hg0]; exact hB)⟩
        case true =>
          go_wp2_with fail
          refine (CT.out _ trivial).mono ?_
          rintro e w7 ⟨rfl, hw7⟩
          have o7 := o6.below hw7
          have f7 := f6.below hw7
          have hb7 := ball hb6 hw7
          clear hw7 o6 f6 hb6 x0 x1 y0 y1 z0 z1
          obtain ⟨x0, x1⟩ := o7.at
          obtain ⟨y0, y1⟩ := o7.fr
          obtain ⟨z0, z1⟩ := f7.at
          cases Q
          case false =>
            obtain rfl : K = false := by rw [HFN.out]; simp
            go_wp2_with fail
            obtain ⟨W, hW, ⟨q0, q1⟩, hB⟩ := fr2_end (a := 0) (b := 0) o7 hb7 n7
            unfold fr2 at hW
            rw [hW]
            exact bodyPost_ret (v := .tuple #[.agg #[.int .i64 0, .int .i64 0], .bool false]) (by simp [results, Tryd.results52, go_sem, q0, q1]) rfl ⟨rfl, by first | exact hB | (rw [← hg0]; exact hB)⟩
          case true =>
            obtain rfl : K = true := by rw [HFN.out]; simp
            go_wp2_with fail
            obtain ⟨W, hW, ⟨q0, q1⟩, hB⟩ := fr2_end (a := X) (b := 1) o7 hb7 n7
            unfold fr2 at hW
            rw [hW]
            exact bodyPost_ret (v := .tuple #[.agg #[.int .i64 X, .int .i64 1], .bool true]) (by simp [results, Tryd.results52, go_sem, q0, q1]) rfl ⟨rfl, by first | exact hB | (rw [← hg0]; exact hB)⟩
      · have hYe : Y = frReadF (SL.getD 1 []) := by rw [HYN.out]; rfl
        have c1 := fun w => frRead_c Bb w (by have := HSB.out (by omega); omega)
        rw [(HA1.out (by omega)).1, ← hYe] at c1
        have C2 := Lib.hid c1; clear c1
        have c41 := O4.out.cell? (i := 1) (v := .string Bb) (by first | exact (HA1.out (by omega)).2 | (rw [List.getElem?_set_ne (by decide)]; exact (HA1.out (by omega)).2))
        have HYE := Lib.hid hYe; clear hYe
        go_wp2_with fail
        refine (C2.out _).mono ?_
        rintro e w' ⟨rfl, rfl⟩
        clear c41
        generalize hwB : wA.setCell ⟨g5, 0, none⟩ (.int .i64 X) = wB at o4 f4 O4 hb4 ⊢
        clear hwB u0 u1 v0 v1
        have o5 := o4.setO (a := ⟨g5, 1, none⟩) n2 (.int .i64 Y)
        have f5 := f4.set1 Y
        simp only at f5
        have hb5 := below_set (a := ⟨g5, 1, none⟩) hb4 n6 hb4.size (.int .i64 Y)
        obtain ⟨u0, u1⟩ := f4.fr
        obtain ⟨v0, v1⟩ := f4.at
        obtain ⟨x0, x1⟩ := f5.at
        go_wp2_with fail
        generalize hwC : wB.setCell ⟨g5, 1, none⟩ (.int .i64 Y) = wC at o5 f5 hb5 x0 x1 ⊢
        clear hwC x0 x1 o4 f4 O4 hb4
        refine (CG.out _).mono ?_
        rintro e w5 ⟨rfl, hw5⟩
        have o6 := o5.below hw5
        have f6 := f5.below hw5
        have hb6 := ball hb5 hw5
        clear hw5 o5 f5 hb5
        obtain ⟨x0, x1⟩ := o6.at
        obtain ⟨y0, y1⟩ := o6.fr
        obtain ⟨z0, z1⟩ := f6.at
        cases u
        case false =>
          obtain rfl : K = false := by rw [HFN.out]; simp
          go_wp2_with fail
          obtain ⟨W, hW, ⟨q0, q1⟩, hB⟩ := fr2_end (a := 0) (b := 0) o6 hb6 n7
          unfold fr2 at hW
          rw [hW]
          exact bodyPost_ret (v := .tuple #[.agg #[.int .i64 0, .int .i64 0], .bool false]) (by simp [results, Tryd.results52, go_sem, q0, q1]) rfl ⟨rfl, by first | exact hB | (rw [← hg0]; exact hB)⟩
        case true =>
          go_wp2_with fail
          refine (CT.out _ trivial).mono ?_
          rintro e w7 ⟨rfl, hw7⟩
          have o7 := o6.below hw7
          have f7 := f6.below hw7
          have hb7 := ball hb6 hw7
          clear hw7 o6 f6 hb6 x0 x1 y0 y1 z0 z1
          obtain ⟨x0, x1⟩ := o7.at
          obtain ⟨y0, y1⟩ := o7.fr
          obtain ⟨z0, z1⟩ := f7.at
          cases Q
          case false =>
            obtain rfl : K = false := by rw [HFN.out]; simp
            go_wp2_with fail
            obtain ⟨W, hW, ⟨q0, q1⟩, hB⟩ := fr2_end (a := 0) (b := 0) o7 hb7 n7
            unfold fr2 at hW
            rw [hW]
            exact bodyPost_ret (v := .tuple #[.agg #[.int .i64 0, .int .i64 0], .bool false]) (by simp [results, Tryd.results52, go_sem, q0, q1]) rfl ⟨rfl, by first | exact hB | (rw [← hg0]; exact hB)⟩
          case true =>
            obtain rfl : K = true := by rw [HFN.out]; simp
            go_wp2_with fail
            obtain ⟨W, hW, ⟨q0, q1⟩, hB⟩ := fr2_end (a := X) (b := Y) o7 hb7 n7
            unfold fr2 at hW
            rw [hW]
            exact bodyPost_ret (v := .tuple #[.agg #[.int .i64 X, .int .i64 Y], .bool true]) (by simp [results, Tryd.results52, go_sem, q0, q1]) rfl ⟨rfl, by first | exact hB | (rw [← hg0]; exact hB)⟩
      · obtain rfl : K = false := by rw [HFN.out, decide_eq_false (by omega)]; rfl
        have k1 : ((N : Int) == 2) = false := beq_eq_false_iff_ne.2 (by omega)
        have k2 : decide ((2 : Int) < (N : Int)) = true := decide_eq_true (by omega)
        obtain ⟨x0, x1⟩ := o4.at
        obtain ⟨y0, y1⟩ := o4.fr
        clear hN2
        go_wp2_with fail
        obtain ⟨W, hW, ⟨q0, q1⟩, hB⟩ := fr2_end (a := 0) (b := 0) o4 hb4 n7
        unfold fr2 at hW
        rw [hW]
        exact bodyPost_ret (v := .tuple #[.agg #[.int .i64 0, .int .i64 0], .bool false]) (by simp [results, Tryd.results52, go_sem, q0, q1]) rfl ⟨rfl, by first | exact hB | (rw [← hg0]; exact hB)⟩

end Go.Proofs.YtljhdnipllacbaaDoor
