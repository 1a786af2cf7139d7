/-
  Scaled and mapped stars: the program's. By an AI agent.
-/
import Derived.Test.YtlplodkabeiimaaStR
import Derived.Test.YtlplodkabeiimaaRayS
namespace Go.Proofs.Ytlplodkabeiimaa
open Go.RowKit

/-- Rays of which the first j are scaled. -/
def sclTo (k : Int) (l : List Ry) (j : Nat) : List Ry := sclR k (l.take j) ++ l.drop j
theorem sclTo_len (k : Int) (l : List Ry) (j : Nat) : (sclTo k l j).length = l.length := by simp [sclTo, sclR]; omega
theorem sclTo_zero (k : Int) (l : List Ry) : sclTo k l 0 = l := by simp [sclTo, sclR]
theorem sclTo_all (k : Int) (l : List Ry) : sclTo k l l.length = sclR k l := by simp [sclTo]
theorem sclTo_get (k : Int) {l : List Ry} {j : Nat} (h : j < l.length) : (sclTo k l j).getD j default = l.getD j default := by
  have e : (sclR k (l.take j)).length = j := by simp [sclR]; omega
  unfold sclTo
  rw [List.getD_eq_getElem?_getD, List.getD_eq_getElem?_getD, List.getElem?_append_right (by omega), e]
  simp
theorem sclTo_set (k : Int) {l : List Ry} {j : Nat} (h : j < l.length) : (sclTo k l j).set j ⟨(l.getD j default).x, (l.getD j default).y, (l.getD j default).w * k⟩ = sclTo k l (j + 1) := by
  have e : (sclR k (l.take j)).length = j := by simp [sclR]; omega
  unfold sclTo
  rw [List.set_append_right _ _ (by omega), e, Nat.sub_self, scl_take k h, List.append_assoc]
  congr 1
  have e2 : l.drop j = l.getD j default :: l.drop (j + 1) := by
    rw [List.drop_eq_getElem_cons h]
    simp [List.getD_eq_getElem?_getD, h]
  rw [e2]
  rfl
theorem rysV_set : ∀ (l : List Ry) (j : Nat) (x : Int), j < l.length → rysV (l.set j ⟨(l.getD j default).x, (l.getD j default).y, x⟩) = (rysV l).set (j * 3 + 2) (.int .i64 x)
  | a :: l, 0, x, _ => by simp [rysV_cons]
  | a :: l, j + 1, x, h => by
    have ih := rysV_set l j x (by simpa using h)
    rw [List.getD_cons_succ, List.set_cons_succ, rysV_cons, ih, rysV_cons, show (j + 1) * 3 + 2 = (j * 3 + 2) + 1 + 1 + 1 by omega, List.set_cons_succ, List.set_cons_succ, List.set_cons_succ]
theorem RowY.set {w : World} {B g cap : Nat} {l : List Ry} (h : RowY w B (.slice (some ⟨g, 0, none⟩) l.length cap) l) {j : Nat} (hj : j < l.length) (x : Int) :
    RowY (w.setCell ⟨g, j * 3 + 2, none⟩ (.int .i64 x)) B (.slice (some ⟨g, 0, none⟩) l.length cap) (l.set j ⟨(l.getD j default).x, (l.getD j default).y, x⟩) :=
  rowY_congr (World.ownsRow.stored h (j * 3 + 2) (.int .i64 x)).1 (by simp) (rysV_set l j x hj).symm
theorem RowY.own {w : World} {B : Nat} {v : Value} {l : List Ry} (h : RowY w B v l) (h0 : 0 < l.length) : ∃ g cap, v = .slice (some ⟨g, 0, none⟩) l.length cap ∧ B ≤ g ∧ g < w.heap.size := by
  rcases h.2 with ⟨e, e2⟩ | ⟨g, cap, cur, e, hb, hg, h1, h2, _⟩
  · omega
  · exact ⟨g, cap, e, hb, (Array.getElem?_eq_some_iff.1 hg).1⟩

set_option maxHeartbeats 1600000 in
set_option maxRecDepth 100000 in
theorem scaleStar_c (ad : Option Addr) (cap : Nat) (l : List Ry) (k : Int) (w : World) (hr : RdY w ad l) (hs : SY ad l.length cap) (hl : l.length ≤ 1048576) :
    Calls Try.prog 20 #[.slice ad l.length cap, .int .i64 k] w fun e w' => StarR w' e (scaB k l) (sclR k l) ∧ Below w.heap.size w w' := by
  have CA := Lib.hid (isStar_c ad cap l w hr hl)
  have CI := Lib.hid (fun w => within_any k 1 20 w)
  unfold scaB
  cases hua : starB l
  · rw [hua] at CA
    clear hua hr hs
    go_enter Try.func20, Try.ntmps20
    go_wp2_with fail
    refine (CA.out).mono ?_
    rintro e w1 ⟨rfl, hw1⟩
    go_wp2_with fail
    exact bodyPost_ret (v := .tuple #[.slice none 0 0, .bool false]) (by simp [results, Try.results20, go_sem]) rfl ⟨starR_no _ _, hw1⟩
  · rw [hua] at CA
    cases hub : inB k 1 20
    · rw [hub] at CI
      clear hua hub hr hs
      go_enter Try.func20, Try.ntmps20
      go_wp2_with fail
      refine (CA.out).mono ?_
      rintro e w1 ⟨rfl, hw1⟩
      go_wp2_with fail
      refine (CI.out _).mono ?_
      rintro e w2 ⟨rfl, rfl⟩
      go_wp2_with fail
      exact bodyPost_ret (v := .tuple #[.slice none 0 0, .bool false]) (by simp [results, Try.results20, go_sem]) rfl ⟨starR_no _ _, hw1⟩
    · rw [hub] at CI
      have hkb := inB_t.1 hub
      obtain ⟨la, ya, _⟩ := star_of hua
      have WA : ∀ r ∈ l, (-20 : Int) ≤ r.w ∧ r.w ≤ 20 := fun r hr => by have := ry_of (ya r hr); omega
      have HWA := Lib.hid WA
      have HR2 := Lib.hid hr; have HS2 := Lib.hid hs
      clear hua hub ya WA hr hs
      simp only [Bool.true_and]
      go_enter Try.func20, Try.ntmps20
      go_wp2_with fail
      refine (CA.out).mono ?_
      rintro e w1 ⟨rfl, hw1⟩
      go_wp2_with fail
      refine (CI.out _).mono ?_
      rintro e w2 ⟨rfl, rfl⟩
      have CC := Lib.hid (cloneY_c ad cap l w1 (HR2.out.below hw1) HS2.out (by omega))
      go_wp2_with fail
      refine (CC.out).mono ?_
      rintro e w3 ⟨ad3, cap3, rfl, hown3, hsy3, hb3⟩
      have hbel3 := ball hw1 hb3
      have HO3 := Lib.hid ((sclTo_zero k l).symm ▸ hown3.mono hw1.size : RowY w3 w.heap.size (.slice ad3 l.length cap3) (sclTo k l 0))
      have HS3 := Lib.hid hsy3
      clear hown3 hsy3 CC CI CA HR2 HS2
      go_wp2_with fail
      go_loopw [20] (fun i wr => ∃ j : Nat, j ≤ l.length ∧ i = .int .i64 j ∧ RowY wr w.heap.size (.slice ad3 l.length cap3) (sclTo k l j) ∧ Below w.heap.size w wr) (fun i _ => l.length - (intOf i).toNat)
      case atStart => exact ⟨0, Nat.zero_le _, rfl, HO3.out, hbel3⟩
      case round =>
        obtain ⟨wE, rfl⟩ : ∃ x : World, x = wr := ⟨_, rfl⟩
        obtain ⟨j, hj, rfl, hrow, hbel⟩ := hrel
        have HO := Lib.hid hrow
        clear hrow
        by_cases hlt : j < l.length
        case neg =>
          obtain rfl : j = l.length := by omega
          rw [sclTo_all] at HO
          have CI := Lib.hid (toldStar_c ad3 cap3 (sclR k l) wE HO.out.rd (by rw [scl_len]; omega))
          have hN := scl_len k l
          rw [hN] at CI
          have HN := Lib.hid hN; clear hN
          go_wp2_with fail
          refine CI.out.mono ?_
          rintro e w4 ⟨rfl, hw4⟩
          unfold toldV
          cases hz : starB (sclR k l)
          · go_wp2_with fail
            exact bodyPost_ret (v := .tuple #[.slice none 0 0, .bool false]) (by simp [results, Try.results20, go_sem]) rfl ⟨by rw [hz]; exact starR_no _ _, ball hbel hw4⟩
          · go_wp2_with fail
            exact bodyPost_ret (v := .tuple #[.slice ad3 l.length cap3, .bool true]) (by simp [results, Try.results20, go_sem]) rfl ⟨⟨ad3, cap3, by rw [hz, HN.out]; rfl, fun _ => ⟨(HO.out.below hw4).rd, by rw [HN.out]; exact HS3.out⟩⟩, ball hbel hw4⟩
        case pos =>
          have hlen := sclTo_len k l j
          obtain ⟨g, c5, e5, hBg, hgl⟩ := HO.out.own (by omega)
          injection e5 with e5 _ e6
          subst e5; subst e6
          have hO2 : RowY wE w.heap.size (.slice (some ⟨g, 0, none⟩) (sclTo k l j).length cap3) (sclTo k l j) := by rw [hlen]; exact HO.out
          have fz := World.ownsRow.frozenAt hO2 (j * 3 + 2)
          have cz := World.ownsRow.cellAt hO2 (j * 3 + 2) (by rw [hlen]; omega)
          rw [(rysV_get (l := sclTo k l j) (by omega)).2.2, sclTo_get k hlt] at cz
          have hset := hO2.set (j := j) (by omega) ((l.getD j default).w * k)
          rw [sclTo_get k hlt, sclTo_set k hlt, hlen] at hset
          have hwr := HWA.out _ (getD_mem hlt)
          generalize (l.getD j default).w = z at hset hwr cz
          have kk := mulbS (k := z) (m := k) (K := 20) (M := 20) (by omega) (by omega) (by omega)
          have e3 : IntKind.i64.wrap (z * k) = z * k := i64_small (by omega) (by omega)
          have y1 : (0 : Int) ≤ (j : Int) := by omega
          have y2 : (j : Int) < (l.length : Int) := by omega
          have HSET := Lib.hid hset
          have hb4 := hbel.setCell (p := ⟨g, j * 3 + 2, none⟩) hBg (.int .i64 (z * k))
          clear hset hO2 hwr kk hlen
          go_wp2_with fail
          go_roundw
          case rel => exact ⟨j + 1, by omega, by go_num, HSET.out, hb4⟩
          case measure => simp [intOf]; omega

end Go.Proofs.Ytlplodkabeiimaa
