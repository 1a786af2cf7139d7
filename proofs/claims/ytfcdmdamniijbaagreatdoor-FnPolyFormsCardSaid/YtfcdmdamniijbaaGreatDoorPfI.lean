/-
  Some texts of this proof in one: PfI PfJ PfK PfL PfM PfN PfO. Each part tells what it proves. By an AI agent.
-/
import Derived.Test.YtfcdmdamniijbaaGreatDoorPfG
import Derived.Test.YtfcdmdamniijbaaGreatDoorRtW
import Derived.Test.YtfcdmdamniijbaaGreatDoorShelf

/-
  The values of a polynomial's terms: the reference's. By an AI agent.
-/
namespace Go.Proofs.YtfcdmdamniijbaaGreatDoor
open Go.RowKit

theorem tab_one (n : Nat) (f : Nat → Int) : tab (n + 1) f = tab n f ++ [f n] := by simp [tab, List.range_succ]

set_option maxRecDepth 100000 in
set_option maxHeartbeats 1600000 in
theorem poTerms_c (ad : Option Addr) (cap : Nat) (p : List Int) (x : Int) (w : World) (hr : RdI w ad p) (hp : polyB p = true) (hx : -1000000 ≤ x ∧ x ≤ 1000000) :
    Calls Tryz.prog 32 #[.slice ad p.length cap, .int .i64 x] w fun e w' => ∃ v, e = .returned v ∧ RowI w' w.heap.size v (valsF p x) ∧ Below w.heap.size w w' := by
  obtain ⟨i0, hi0, hz0, hz1, hz2⟩ := info_parts Tryz.infoI
  have hpl := (polyB_m hp).1
  have HNB := Lib.hid (polyB_m hp).2.1
  have HEX := Lib.hid (fun e he => ex_bd (e := e) hp hx he)
  have HR := Lib.hid hr
  clear hr hp
  unfold valsF
  obtain ⟨f, hf⟩ : ∃ f : Nat → Int, (fun e => prodZ (cof p e) ((e : Int) * x)) = f := ⟨_, rfl⟩
  have HF := Lib.hid (fun e => show f e = prodZ (cof p e) ((e : Int) * x) by rw [← hf])
  rw [hf]
  clear hf
  obtain ⟨n, hn⟩ : ∃ n, p.length = n := ⟨_, rfl⟩
  have HN := Lib.hid hn
  rw [hn] at hpl HEX ⊢
  clear hn
  go_enter Tryz.func32, Tryz.ntmps32
  go_wp2_with fail
  go_loopw [5, 10] (fun v i wr => ∃ k : Nat, k ≤ n ∧ i = .int .i64 k ∧ wr.ownsRow w.heap.size 3 1 v k (ints (tab k f)) ∧ Below w.heap.size w wr) (fun _ i _ => n - (intOf i).toNat)
  case atStart => exact ⟨0, Nat.zero_le _, rfl, World.ownsRow_nil _ _ _ _, Below.refl _ _⟩
  case round =>
    obtain ⟨wE, rfl⟩ : ∃ x : World, x = wr := ⟨_, rfl⟩
    obtain ⟨k, hk, rfl, hown, hbel⟩ := hrel
    have HO := Lib.hid hown; clear hown
    by_cases hlt : k < n
    case neg =>
      obtain rfl : k = n := by omega
      have hrow : RowI wE w.heap.size _ (tab k f) := row_congr HO.out (by simp [tab]) rfl
      have HRW := Lib.hid hrow
      clear hrow HO
      go_wp2_with fail
      go_ret
      exact ⟨_, rfl, HRW.out, hbel⟩
    case pos =>
      obtain ⟨b, off, rfl, hb, c0⟩ := HR.out k (by rw [HN.out]; exact hlt)
      have d0 := bcell hbel hb c0
      have hex := HEX.out k hlt
      have hfk := HF.out k
      have hnb := HNB.out (p.getD k 0) (by rw [List.getD_eq_getElem?_getD, List.getElem?_eq_getElem (show k < p.length by rw [HN.out]; exact hlt)]; exact List.getElem_mem _)
      have hst := tab_one k f
      unfold cof at hfk
      generalize p.getD k 0 = y at d0 hfk hnb
      obtain ⟨X, hX⟩ : ∃ X, (k : Int) * x = X := ⟨_, rfl⟩
      rw [hX] at hex hfk
      have wX : IntKind.i64.wrap ((k : Int) * x) = X := by rw [hX]; exact i64_small (by omega) (by omega)
      have hyb := numB_bd hnb
      have wY : IntKind.i64.wrap (y + X) = y + X := i64_small (by omega) (by omega)
      have x1 : (0 : Int) ≤ (k : Int) := by omega
      have x2 : (k : Int) < (n : Int) := by omega
      have hsz := hbel.size
      clear c0 hX hnb
      by_cases e : y = 1000000000
      · subst e
        have hfv : f k = 1000000000 := by rw [hfk]; unfold prodZ; rw [if_pos (Or.inl rfl)]
        rw [hfv] at hst
        have HST := Lib.hid hst
        clear hst hfk hfv wX wY hex
        go_wp2_with (at_builtin; refine wpList_append_lies _ rfl _ _ _ rfl w.heap.size 3 i0 _ 1 8 Tryz.underlying24 hi0 hz0 hz1 hz2 rfl (by omega) _ k _ rfl (HO.out.alloc _) ⟨wE.heap.size, 0, none⟩ 1 1 [.int .i64 1000000000] rfl rfl (World.news_of_block (cs := #[.int .i64 1000000000]) (t := 3) (fr := (0, 0)) (heap_alloc_new _ _)) (by simp [Value.oneCell']) (by omega) (by unfold maxLen; omega) (by omega) (by simp; omega) (wE.heap.size + 1) (by simp) ?_; intro gg gcap w2 hown1 hgrow hat hlt2)
        go_roundw
        case rel =>
          refine ⟨k + 1, by omega, by go_num, row_congr hown1 rfl ?_, app_below hbel hsz HO.out hgrow⟩
          rw [HST.out]
          simp [ints]
        case measure => simp [intOf]; omega
      · have hfv : f k = y + X := by rw [hfk]; unfold prodZ; rw [if_neg (by rintro (h | h); exact e h; omega)]
        rw [hfv] at hst
        have HST := Lib.hid hst
        have eb : (y != 1000000000) = true := bne_iff_ne.2 e
        clear hst hfk hfv hex
        go_wp2_with (at_builtin; refine wpList_append_lies _ rfl _ _ _ rfl w.heap.size 3 i0 _ 1 8 Tryz.underlying24 hi0 hz0 hz1 hz2 rfl (by omega) _ k _ rfl (HO.out.alloc _) ⟨wE.heap.size, 0, none⟩ 1 1 [.int .i64 (y + X)] rfl rfl (World.news_of_block (cs := #[.int .i64 (y + X)]) (t := 3) (fr := (0, 0)) (heap_alloc_new _ _)) (by simp [Value.oneCell']) (by omega) (by unfold maxLen; omega) (by omega) (by simp; omega) (wE.heap.size + 1) (by simp) ?_; intro gg gcap w2 hown1 hgrow hat hlt2)
        clear wX wY
        go_roundw
        case rel =>
          refine ⟨k + 1, by omega, by go_num, row_congr hown1 rfl ?_, app_below hbel hsz HO.out hgrow⟩
          rw [HST.out]
          simp [ints]
        case measure => simp [intOf]; omega
end Go.Proofs.YtfcdmdamniijbaaGreatDoor

/-
  Moved polynomials, both sides. By an AI agent.
-/
namespace Go.Proofs.YtfcdmdamniijbaaGreatDoor
open Go.RowKit

def mvB (p : List Int) (x : Int) : Bool := polyB p && (finB' x && polyB (valsF p x))
theorem valsF_len (p : List Int) (x : Int) : (valsF p x).length = p.length := by simp [valsF, tab]
theorem valsF_get (p : List Int) (x : Int) {e : Nat} (h : e < p.length) : (valsF p x).getD e 0 = prodZ (cof p e) ((e : Int) * x) := by
  unfold valsF tab
  rw [List.getD_eq_getElem?_getD, List.getElem?_map, List.getElem?_range h]
  rfl
/-- Moved coefficients that are numbers are a polynomial. -/
theorem mv_all {p : List Int} {x : Int} (hp : polyB p = true) (hx : finB' x = true) : polyB (valsF p x) = (valsF p x).all numB := by
  obtain ⟨hl, hn, hlast⟩ := polyB_m hp
  have hb := ex_bd (e := p.length - 1) hp (inB_t.1 (show inB x (-1000000) 1000000 = true from hx)) (by omega)
  have hv := valsF_get p x (e := p.length - 1) (by omega)
  have hm : p.getD (p.length - 1) 0 ∈ p := by
    rw [List.getD_eq_getElem?_getD, List.getElem?_eq_getElem (show p.length - 1 < p.length by omega)]; exact List.getElem_mem _
  have hy := hn _ hm
  have hne : (valsF p x).getD ((valsF p x).length - 1) 0 ≠ 1000000000 := by
    rw [valsF_len, hv]
    unfold cof prodZ
    rw [if_neg (by rintro (h | h); exact hlast h; omega)]
    have h1 : -1000000 ≤ p.getD (p.length - 1) 0 ∧ p.getD (p.length - 1) 0 ≤ 1000000 := by
      unfold numB at hy
      rw [beq_eq_false_iff_ne.2 hlast, Bool.or_false] at hy
      exact inB_t.1 hy
    omega
  unfold polyB
  rw [decide_eq_true hne, Bool.and_true, show inB ((valsF p x).length : Int) 1 13 = true from inB_t.2 (by rw [valsF_len]; omega), Bool.true_and]

set_option maxHeartbeats 1600000 in
theorem iMovePoly_c (ad : Option Addr) (cap : Nat) (p : List Int) (x : Int) (w : World) (hr : RdI w ad p) (hl : p.length ≤ 1048576) :
    Calls Tryz.prog 6 #[.slice ad p.length cap, .int .i64 x] w (IntsO w (mvB p x) (if mvB p x = true then valsF p x else [])) := by
  have c1 := isPoly_c ad cap p w hr hl
  have c2 := fun w => isFinite_c x w
  have hxx := fun h => inB_t.1 (show inB x (-1000000) 1000000 = true from h)
  unfold mvB
  rw [show finB' x = inB x (-1000000) 1000000 from rfl]
  obtain ⟨u, hu⟩ : ∃ u, polyB p = u := ⟨_, rfl⟩
  rw [hu] at c1 ⊢
  obtain ⟨v, hv⟩ : ∃ v, inB x (-1000000) 1000000 = v := ⟨_, rfl⟩
  rw [hv] at c2 hxx ⊢
  have C1 := Lib.hid c1; have C2 := Lib.hid c2; clear c1 c2 hv
  cases u
  case false =>
    simp only [Bool.false_and, Bool.false_eq_true, if_false]
    clear hr hu hxx
    go_enter Tryz.func6, Tryz.ntmps6
    go_wp2_with fail
    refine C1.out.mono ?_
    rintro e w1 ⟨rfl, rfl⟩
    go_wp2_with fail
    go_ret2
    exact ⟨none, 0, rfl, RdI.nil _ _, Below.refl _ _⟩
  case true =>
    cases v
    case false =>
      simp only [Bool.false_and, Bool.and_false, Bool.false_eq_true, if_false]
      clear hr hu hxx
      go_enter Tryz.func6, Tryz.ntmps6
      go_wp2_with fail
      refine C1.out.mono ?_
      rintro e w1 ⟨rfl, rfl⟩
      go_wp2_with fail
      refine (C2.out _).mono ?_
      rintro e w1 ⟨rfl, rfl⟩
      go_wp2_with fail
      go_ret2
      exact ⟨none, 0, rfl, RdI.nil _ _, Below.refl _ _⟩
    case true =>
      simp only [Bool.true_and]
      have c3 := Lib.hid (values_c ad cap p x w hr hu (hxx rfl))
      have hvl := valsF_len p x
      have HVL := Lib.hid hvl
      clear hr hu hxx hvl
      generalize valsF p x = L at c3 HVL ⊢
      obtain ⟨pb, hpb⟩ : ∃ y, polyB L = y := ⟨_, rfl⟩
      obtain ⟨Z, hZ⟩ : ∃ y, (if pb = true then L else []) = y := ⟨_, rfl⟩
      rw [hpb, hZ]
      have HPB := Lib.hid hpb; have HZ := Lib.hid hZ; clear hpb hZ
      go_enter Tryz.func6, Tryz.ntmps6
      go_wp2_with fail
      refine C1.out.mono ?_
      rintro e w1 ⟨rfl, rfl⟩
      go_wp2_with fail
      refine (C2.out _).mono ?_
      rintro e w1 ⟨rfl, rfl⟩
      go_wp2_with fail
      refine c3.out.mono ?_
      rintro e w1 ⟨v, rfl, hrow, hb⟩
      obtain ⟨ad2, cap2, rfl, hrd⟩ := hrow.shape
      have ct := toldPoly_c ad2 cap2 L w1 hrd (by have := HVL.out; omega)
      rw [HPB.out, HZ.out] at ct
      have CT := Lib.hid ct
      clear ct hrow hrd
      go_wp2_with fail
      refine CT.out.mono ?_
      rintro e w2 ⟨ad3, cap3, rfl, hr3, hb3⟩
      have HR3 := Lib.hid hr3; clear hr3
      go_wp2_with fail
      go_ret2
      exact ⟨ad3, cap3, rfl, HR3.out, ball hb hb3⟩
end Go.Proofs.YtfcdmdamniijbaaGreatDoor

/-
  Moved polynomials of the reference. By an AI agent.
-/
namespace Go.Proofs.YtfcdmdamniijbaaGreatDoor
open Go.RowKit

theorem poFin_k (n : Int) (w : World) :
    Calls Tryz.prog 31 #[.int .i64 n] w fun e w' => e = .returned (.bool (inB n (-1000000) 1000000)) ∧ w = w' := by
  have c := Lib.hid (fun w => l1In_any n (-1000000) 1000000 w)
  go_enter Tryz.func31, Tryz.ntmps31
  go_wp2_with fail
  refine (c.out _).mono ?_
  rintro e w1 ⟨rfl, rfl⟩
  go_wp2_with fail
  go_ret
  exact ⟨rfl, rfl⟩

set_option maxHeartbeats 1600000 in
theorem sMovePoly_c (ad : Option Addr) (cap : Nat) (p : List Int) (x : Int) (w : World) (hr : RdI w ad p) (hl : p.length ≤ 1048576) :
    Calls Tryz.prog 7 #[.slice ad p.length cap, .int .i64 x] w (IntsO w (mvB p x) (if mvB p x = true then valsF p x else [])) := by
  have c1 := poGood_c ad cap p w hr hl
  have c2 := fun w => poFin_k x w
  have hxx := fun h => inB_t.1 (show inB x (-1000000) 1000000 = true from h)
  have hma := fun h => mv_all (p := p) (x := x) h
  unfold mvB
  rw [show finB' x = inB x (-1000000) 1000000 from rfl] at *
  obtain ⟨u, hu⟩ : ∃ u, polyB p = u := ⟨_, rfl⟩
  rw [hu] at c1 ⊢
  obtain ⟨v, hv⟩ : ∃ v, inB x (-1000000) 1000000 = v := ⟨_, rfl⟩
  rw [hv] at c2 hxx hma ⊢
  have C1 := Lib.hid c1; have C2 := Lib.hid c2; clear c1 c2 hv
  cases u
  case false =>
    simp only [Bool.false_and, Bool.false_eq_true, if_false]
    clear hr hu hxx hma
    go_enter Tryz.func7, Tryz.ntmps7
    go_wp2_with fail
    refine C1.out.mono ?_
    rintro e w1 ⟨rfl, rfl⟩
    go_wp2_with fail
    go_ret2
    exact ⟨none, 0, rfl, RdI.nil _ _, Below.refl _ _⟩
  case true =>
    cases v
    case false =>
      simp only [Bool.false_and, Bool.and_false, Bool.false_eq_true, if_false]
      clear hr hu hxx hma
      go_enter Tryz.func7, Tryz.ntmps7
      go_wp2_with fail
      refine C1.out.mono ?_
      rintro e w1 ⟨rfl, rfl⟩
      go_wp2_with fail
      refine (C2.out _).mono ?_
      rintro e w1 ⟨rfl, rfl⟩
      go_wp2_with fail
      go_ret2
      exact ⟨none, 0, rfl, RdI.nil _ _, Below.refl _ _⟩
    case true =>
      simp only [Bool.true_and]
      rw [hma hu rfl]
      have c3 := Lib.hid (poTerms_c ad cap p x w hr hu (hxx rfl))
      have hvl := valsF_len p x
      have hpl := (polyB_m hu).1
      clear hr hu hxx hma
      generalize valsF p x = L at c3 hvl ⊢
      obtain ⟨A, hA⟩ : ∃ A, L.all numB = A := ⟨_, rfl⟩
      rw [hA]
      have HA := Lib.hid hA; clear hA
      have hL13 : L.length ≤ 13 := by omega
      have HVL := Lib.hid hvl; clear hvl
      obtain ⟨Z, hZ⟩ : ∃ y, (if A = true then L else []) = y := ⟨_, rfl⟩
      rw [hZ]
      have HZ := Lib.hid hZ; clear hZ
      go_enter Tryz.func7, Tryz.ntmps7
      go_wp2_with fail
      refine C1.out.mono ?_
      rintro e w1 ⟨rfl, rfl⟩
      go_wp2_with fail
      refine (C2.out _).mono ?_
      rintro e w1 ⟨rfl, rfl⟩
      go_wp2_with fail
      refine c3.out.mono ?_
      rintro e w1 ⟨v, rfl, hrow, hb⟩
      obtain ⟨ad2, cap2, rfl, hrd⟩ := hrow.shape
      have HR := Lib.hid hrd
      clear hrow hrd
      go_wp2_with fail
      go_loopw [22] (fun i wr => ∃ k : Nat, k ≤ L.length ∧ i = .int .i64 k ∧ (L.take k).all numB = true ∧ w1 = wr) (fun i _ => L.length - (intOf i).toNat)
      case atStart => exact ⟨0, Nat.zero_le _, rfl, by simp, rfl⟩
      case round =>
        obtain ⟨k, hk, rfl, hall, rfl⟩ := hrel
        have HALL := Lib.hid hall; clear hall
        by_cases hlt : k < L.length
        case neg =>
          obtain rfl : k = L.length := by omega
          obtain rfl : A = true := by rw [← HA.out]; have := HALL.out; rwa [List.take_length] at this
          have hz := HZ.out
          rw [if_pos rfl] at hz
          subst hz
          go_wp2_with fail
          go_ret2
          exact ⟨ad2, cap2, rfl, HR.out, hb⟩
        case pos =>
          obtain ⟨b, off, rfl, hbl, c0⟩ := HR.out k hlt
          have hst := (show (L.take (k + 1)).all numB = ((L.take k).all numB && numB (L.getD k 0)) by rw [List.take_succ_eq_append_getElem hlt, List.all_append, List.getD_eq_getElem?_getD, List.getElem?_eq_getElem hlt]; simp)
          have hmem := (show numB (L.getD k 0) = false → A = false from fun h => by
            rw [← HA.out]
            cases hc : L.all numB
            · rfl
            · have := List.all_eq_true.1 hc (L.getD k 0) (by rw [List.getD_eq_getElem?_getD, List.getElem?_eq_getElem hlt, Option.getD_some]; exact List.getElem_mem _)
              rw [h] at this; exact absurd this (by simp))
          generalize L.getD k 0 = y at c0 hst hmem
          have cb := fun w => nuGood_c y w
          generalize numB y = q at cb hst hmem
          have CB := Lib.hid cb; have HST := Lib.hid hst
          clear cb hst
          have x1 : (0 : Int) ≤ (k : Int) := by omega
          have x2 : (k : Int) < (L.length : Int) := by omega
          cases q
          case false =>
            obtain rfl := hmem rfl
            have hz := HZ.out
            rw [if_neg (by simp)] at hz
            subst hz
            go_wp2_with fail
            refine (CB.out _).mono ?_
            rintro e w2 ⟨rfl, rfl⟩
            go_wp2_with fail
            go_ret2
            exact ⟨none, 0, rfl, RdI.nil _ _, hb⟩
          case true =>
            clear hmem
            go_wp2_with fail
            refine (CB.out _).mono ?_
            rintro e w2 ⟨rfl, rfl⟩
            go_wp2_with fail
            go_roundw
            case rel => exact ⟨k + 1, by omega, by go_num, by rw [HST.out, HALL.out]; rfl, trivial⟩
            case measure => simp [intOf]; omega
end Go.Proofs.YtfcdmdamniijbaaGreatDoor

/-
  The text of a polynomial: the reference's. By an AI agent.
-/
namespace Go.Proofs.YtfcdmdamniijbaaGreatDoor
open Go.RowKit

theorem join_snoc (c : UInt8) (y : List UInt8) : ∀ {l : List (List UInt8)}, l ≠ [] → Lib.join (l ++ [y]) [c] = Lib.join l [c] ++ (c :: y)
  | [], h => absurd rfl h
  | x :: r, _ => by
    rw [List.cons_append, Lib.join_cons, Lib.join_cons]
    unfold Lib.joinTail
    simp
theorem nums_snoc (c : UInt8) (l : List Int) (n : Int) : numsTxt c (l ++ [n]) = if l = [] then numTxt n else numsTxt c l ++ (c :: numTxt n) := by
  unfold numsTxt
  rw [List.map_append, List.map_cons, List.map_nil]
  split
  · rename_i h; subst h; simp [Lib.join_one]
  · rename_i h; exact join_snoc c _ (by simpa using h)
theorem bytes_add (A B : List UInt8) : (⟨A.toArray⟩ : ByteArray) ++ ⟨B.toArray⟩ = ⟨(A ++ B).toArray⟩ := by
  apply ByteArray.ext
  simp
theorem add_strK (a b : ByteArray) (h : a.size + b.size ≤ 9223372036854775807) (w : World) : (Op.stringOp .add a b).run Tryz.prog w = .ok (.string (a ++ b)) w := run_string_add_sum w a b h
theorem take_oneI (l : List Int) {k : Nat} (h : k < l.length) : l.take (k + 1) = l.take k ++ [l.getD k 0] := by
  rw [List.take_succ_eq_append_getElem h, List.getD_eq_getElem?_getD, List.getElem?_eq_getElem h]; rfl

set_option maxRecDepth 100000 in
set_option maxHeartbeats 3200000 in
theorem poText_c (ad : Option Addr) (cap : Nat) (p : List Int) (w : World) (hr : RdI w ad p) (hl : p.length ≤ 1000) (hb : ∀ n ∈ p, numB n = true) :
    Calls Tryz.prog 44 #[.slice ad p.length cap] w fun e w' => e = .returned (strV (numsTxt 44 p)) ∧ Below w.heap.size w w' := by
  have HR := Lib.hid hr; have HB := Lib.hid hb
  have HLN := Lib.hid (fun k => nums_len (c := 44) (l := p.take k) (fun n hn => hb n (List.mem_of_mem_take hn)))
  clear hr hb
  have HA := Lib.hid (add_strK)
  obtain ⟨n, hn⟩ : ∃ n, p.length = n := ⟨_, rfl⟩
  have HN := Lib.hid hn
  obtain ⟨R, hR⟩ : ∃ R, strV (numsTxt 44 p) = R := ⟨_, rfl⟩
  rw [hR]
  have HRR := Lib.hid hR; clear hR
  rw [hn] at hl ⊢
  clear hn
  go_enter Tryz.func44, Tryz.ntmps44
  go_wp2_with fail
  go_loopw [3, 8] (fun v i wr => ∃ k : Nat, k ≤ n ∧ i = .int .i64 k ∧ v = strV (numsTxt 44 (p.take k)) ∧ Below w.heap.size w wr) (fun _ i _ => n - (intOf i).toNat)
  case atStart => exact ⟨0, Nat.zero_le _, rfl, rfl, Below.refl _ _⟩
  case round =>
    obtain ⟨wE, rfl⟩ : ∃ x : World, x = wr := ⟨_, rfl⟩
    obtain ⟨k, hk, rfl, rfl, hbel⟩ := hrel
    by_cases hlt : k < n
    case neg =>
      obtain rfl : k = n := by omega
      rw [List.take_of_length_le (by rw [HN.out]; omega), HRR.out]
      go_wp2_with fail
      go_ret
      exact ⟨rfl, hbel⟩
    case pos =>
      obtain ⟨b, off, rfl, hbl, c0⟩ := HR.out k (by rw [HN.out]; exact hlt)
      have d0 := bcell hbel hbl c0
      have hnum := HB.out (p.getD k 0) (by rw [List.getD_eq_getElem?_getD, List.getElem?_eq_getElem (show k < p.length by rw [HN.out]; exact hlt)]; exact List.getElem_mem _)
      have hst := nums_snoc 44 (p.take k) (p.getD k 0)
      rw [← take_oneI p (show k < p.length by rw [HN.out]; exact hlt)] at hst
      have hln := HLN.out k
      rw [List.length_take] at hln
      have hne : p.take k = [] ↔ k = 0 := by
        rw [← List.length_eq_zero_iff, List.length_take, HN.out]; omega
      generalize p.getD k 0 = y at d0 hnum hst
      have hbd := numB_bd hnum
      have cn := nuText_c y wE (by omega) (by omega)
      have htl := numTxt_lenP hnum
      have x1 : (0 : Int) ≤ (k : Int) := by omega
      have x2 : (k : Int) < (n : Int) := by omega
      by_cases h0 : k = 0
      · have hnil := hne.2 h0
        rw [if_pos hnil] at hst
        rw [hnil] at hln ⊢
        have e0 : strV (numsTxt 44 []) = .string ⟨#[]⟩ := rfl
        rw [e0]
        have a1 : ∀ w, (Op.stringOp .add ⟨#[]⟩ ⟨(numTxt y).toArray⟩).run Tryz.prog w = .ok (.string ⟨(numTxt y).toArray⟩) w := fun w => by
          have := HA.out ⟨#[]⟩ ⟨(numTxt y).toArray⟩ (by simp [ByteArray.size]; omega) w
          rw [show (⟨#[]⟩ : ByteArray) = ⟨([] : List UInt8).toArray⟩ from rfl, bytes_add] at this
          exact this
        unfold strV at cn
        have HST := Lib.hid (show strV (numsTxt 44 (p.take (k + 1))) = .string ⟨(numTxt y).toArray⟩ by rw [hst]; rfl)
        generalize (⟨(numTxt y).toArray⟩ : ByteArray) = T at cn a1 HST
        have CN := Lib.hid cn
        have g1 : decide ((0 : Int) < (k : Int)) = false := decide_eq_false (by omega)
        have g2 : decide (0 < k) = false := decide_eq_false (by omega)
        have g3 : ¬ (0 < k) := by omega
        have g4 : ¬ ((0 : Int) < (k : Int)) := by omega
        clear cn hst hln hne hnil c0 hnum hbd htl e0 h0
        go_wp2_with fail
        refine CN.out.mono ?_
        rintro e w1 ⟨rfl, hw1⟩
        go_wp2_with fail
        go_roundw
        case rel => exact ⟨k + 1, by omega, by go_num, HST.out.symm, ball hbel hw1⟩
        case measure => simp [intOf]; omega
      · rw [if_neg (fun h => h0 (hne.1 h))] at hst
        have g1 : decide ((0 : Int) < (k : Int)) = true := decide_eq_true (by omega)
        have g2 : decide (0 < k) = true := decide_eq_true (by omega)
        generalize numsTxt 44 (p.take k) = U at hst hln
        have a1 : ∀ w, (Op.stringOp .add ⟨U.toArray⟩ ⟨#[44]⟩).run Tryz.prog w = .ok (.string ⟨(U ++ [44]).toArray⟩) w := fun w => by
          have := HA.out ⟨U.toArray⟩ ⟨#[44]⟩ (by simp [ByteArray.size]; omega) w
          rw [show (⟨#[44]⟩ : ByteArray) = ⟨([44] : List UInt8).toArray⟩ from rfl, bytes_add] at this
          exact this
        have a2 : ∀ w, (Op.stringOp .add ⟨(U ++ [44]).toArray⟩ ⟨(numTxt y).toArray⟩).run Tryz.prog w = .ok (.string ⟨(U ++ [44] ++ numTxt y).toArray⟩) w := fun w => by
          have := HA.out ⟨(U ++ [44]).toArray⟩ ⟨(numTxt y).toArray⟩ (by simp [ByteArray.size]; omega) w
          rw [bytes_add] at this
          exact this
        unfold strV at cn
        have HST := Lib.hid (show strV (numsTxt 44 (p.take (k + 1))) = .string ⟨(U ++ [44] ++ numTxt y).toArray⟩ by rw [hst]; unfold strV; simp)
        unfold strV
        generalize (⟨(U ++ [44] ++ numTxt y).toArray⟩ : ByteArray) = T3 at a2 HST
        generalize (⟨(U ++ [44]).toArray⟩ : ByteArray) = T2 at a1 a2
        generalize (⟨(numTxt y).toArray⟩ : ByteArray) = T at cn a2
        generalize (⟨U.toArray⟩ : ByteArray) = T1 at a1 ⊢
        have CN := Lib.hid cn
        clear cn hst hln hne c0 hnum hbd htl h0
        go_wp2_with fail
        refine CN.out.mono ?_
        rintro e w1 ⟨rfl, hw1⟩
        go_wp2_with fail
        go_roundw
        case rel => exact ⟨k + 1, by omega, by go_num, HST.out.symm, ball hbel hw1⟩
        case measure => simp [intOf]; omega
end Go.Proofs.YtfcdmdamniijbaaGreatDoor

/-
  The least terms of a polynomial, both sides. By an AI agent.
-/
namespace Go.Proofs.YtfcdmdamniijbaaGreatDoor
open Go.RowKit

/-! ### Plain -/
def plcF (l : List Int) (n : Int) (k : Nat) : List Int := ((List.range k).filter fun j => decide (l.getD j 0 = n)).map fun j : Nat => (j : Int)
theorem plc_hit {l : List Int} {n : Int} {k : Nat} (h : l.getD k 0 = n) : plcF l n (k + 1) = plcF l n k ++ [(k : Int)] := by
  unfold plcF
  rw [List.range_succ, List.filter_append, List.map_append]
  simp only [List.filter_cons, List.filter_nil, decide_eq_true h, if_true, List.map_cons, List.map_nil]
theorem plc_miss {l : List Int} {n : Int} {k : Nat} (h : l.getD k 0 ≠ n) : plcF l n (k + 1) = plcF l n k := by
  unfold plcF
  rw [List.range_succ, List.filter_append, List.map_append]
  simp only [List.filter_cons, List.filter_nil, decide_eq_false h, Bool.false_eq_true, if_false, List.map_nil, List.append_nil]
theorem plc_len (l : List Int) (n : Int) (k : Nat) : (plcF l n k).length ≤ k := by
  have := List.length_filter_le (fun j => decide (l.getD j 0 = n)) (List.range k)
  simpa [plcF] using this
def lsB (p : List Int) (x : Int) : Bool := polyB p && (finB' x && numB (minL (valsF p x)))
def lsL (p : List Int) (x : Int) : List Int := plcF (valsF p x) (minL (valsF p x)) (valsF p x).length
theorem lsL_len (p : List Int) (x : Int) : (lsL p x).length ≤ p.length := by
  have := plc_len (valsF p x) (minL (valsF p x)) (valsF p x).length
  rw [valsF_len] at this
  unfold lsL
  rwa [valsF_len]
theorem minL_mem (l : List Int) (h : ∃ y ∈ l, y < 1000000000) : minL l ∈ l := by
  obtain ⟨y, hy, hlt⟩ := h
  obtain ⟨_, h2, h3⟩ := foldl_min l 1000000000
  rcases h3 with h3 | h3
  · have := h2 y hy
    omega
  · exact h3
theorem last_bd {p : List Int} {x : Int} (hp : polyB p = true) (hx : finB' x = true) : (valsF p x).getD (p.length - 1) 0 ∈ valsF p x ∧ (valsF p x).getD (p.length - 1) 0 ≤ 14000000 := by
  obtain ⟨hl, hn, hlast⟩ := polyB_m hp
  have hb := ex_bd (e := p.length - 1) hp (inB_t.1 (show inB x (-1000000) 1000000 = true from hx)) (by omega)
  have hv := valsF_get p x (e := p.length - 1) (by omega)
  have hm : p.getD (p.length - 1) 0 ∈ p := by
    rw [List.getD_eq_getElem?_getD, List.getElem?_eq_getElem (show p.length - 1 < p.length by omega)]; exact List.getElem_mem _
  have hy := hn _ hm
  refine ⟨?_, ?_⟩
  · have hvl := valsF_len p x
    rw [List.getD_eq_getElem?_getD, List.getElem?_eq_getElem (show p.length - 1 < (valsF p x).length by omega)]; exact List.getElem_mem _
  · rw [hv]
    unfold cof prodZ
    rw [if_neg (by rintro (h | h); exact hlast h; omega)]
    have h1 : -1000000 ≤ p.getD (p.length - 1) 0 ∧ p.getD (p.length - 1) 0 ≤ 1000000 := by
      unfold numB at hy
      rw [beq_eq_false_iff_ne.2 hlast, Bool.or_false] at hy
      exact inB_t.1 hy
    omega
theorem min_bd {p : List Int} {x : Int} (hp : polyB p = true) (hx : finB' x = true) : minL (valsF p x) ≤ 14000000 ∧ minL (valsF p x) ∈ valsF p x := by
  obtain ⟨h1, h2⟩ := last_bd hp hx
  exact ⟨by have := (foldl_min (valsF p x) 1000000000).2.1 _ h1; unfold minL; omega, minL_mem _ ⟨_, h1, by omega⟩⟩
theorem min_fin {p : List Int} {x : Int} (hp : polyB p = true) (hx : finB' x = true) : inB (minL (valsF p x)) (-1000000) 1000000 = numB (minL (valsF p x)) := by
  have h := (min_bd hp hx).1
  unfold numB
  rw [beq_eq_false_iff_ne.2 (by omega), Bool.or_false]
theorem plc_mem {l : List Int} {n : Int} {k : Nat} {z : Int} : z ∈ plcF l n k ↔ ∃ j : Nat, j < k ∧ l.getD j 0 = n ∧ z = (j : Int) := by
  unfold plcF
  simp only [List.mem_map, List.mem_filter, List.mem_range, decide_eq_true_eq]
  constructor
  · rintro ⟨j, ⟨h1, h2⟩, h3⟩; exact ⟨j, h1, h2, h3.symm⟩
  · rintro ⟨j, h1, h2, h3⟩; exact ⟨j, ⟨h1, h2⟩, h3.symm⟩
theorem lsL_pos {p : List Int} {x : Int} (hp : polyB p = true) (hx : finB' x = true) : 0 < (lsL p x).length := by
  obtain ⟨_, h2⟩ := min_bd hp hx
  obtain ⟨j, hj, e⟩ := List.getElem_of_mem h2
  have : (j : Int) ∈ lsL p x := plc_mem.2 ⟨j, hj, by rw [List.getD_eq_getElem?_getD, List.getElem?_eq_getElem hj]; exact e, rfl⟩
  exact List.length_pos_of_mem this

/-! ### Walks -/
set_option maxHeartbeats 800000 in
set_option maxRecDepth 100000 in
theorem placesOf_p (ad : Option Addr) (cap : Nat) (xs : List Int) (y : Int) (w : World) (hl : xs.length ≤ 1048576) (hr : RdI w ad xs) :
    Calls Tryz.prog 36 #[.slice ad xs.length cap, .int .i64 y] w fun e w' => ∃ v, e = .returned v ∧ RowI w' w.heap.size v (plcF xs y xs.length) ∧ Below w.heap.size w w' := by
  obtain ⟨i0, hi0, hz0, hz1, hz2⟩ := info_parts Tryz.infoI
  have HR1 := Lib.hid hr; clear hr
  go_enter Tryz.func36, Tryz.ntmps36
  go_wp2_with fail
  go_loopw [5, 11] (fun v i wr => ∃ k : Nat, k ≤ xs.length ∧ i = .int .i64 k ∧ RowI wr w.heap.size v (plcF xs y k) ∧ Below w.heap.size w wr) (fun _ i _ => xs.length - (intOf i).toNat)
  case atStart => exact ⟨0, Nat.zero_le _, rfl, row_empty _ _, (Below.refl _ _).alloc (Nat.le_refl _) _⟩
  case round =>
    obtain ⟨wE, rfl⟩ : ∃ u : World, u = wr := ⟨_, rfl⟩
    obtain ⟨k, hk, rfl, hown, hbel⟩ := hrel
    have hsl := plc_len xs y k
    have hsz := hbel.size
    by_cases hlt : k < xs.length
    case neg =>
      obtain rfl : k = xs.length := by omega
      have HO := Lib.hid hown; clear hown
      go_wp2_with fail
      go_ret
      exact ⟨_, rfl, HO.out, hbel⟩
    case pos =>
      obtain ⟨b, off, rfl, hb, c⟩ := HR1.out k hlt
      have r2 := bcell hbel hb c
      clear c
      have hph := fun h => plc_hit (l := xs) (n := y) (k := k) h
      have hpm := fun h => plc_miss (l := xs) (n := y) (k := k) h
      generalize xs.getD k 0 = x at r2 hph hpm
      have x1 : (0 : Int) ≤ (k : Int) := by omega
      have x2 : (k : Int) < (xs.length : Int) := by omega
      generalize plcF xs y k = L at hown hph hpm hsl
      by_cases ht : x = y
      · have hd : (x == y) = true := by simpa using ht
        have HST := Lib.hid (hph ht)
        have HO := Lib.hid hown
        clear ht hph hpm hown
        go_wp2_with (at_builtin; refine wpList_append_lies _ rfl _ _ _ rfl w.heap.size 3 i0 _ 1 8 Tryz.underlying24 hi0 hz0 hz1 hz2 rfl (by omega) _ L.length (ints L) rfl (HO.out.alloc _) ⟨wE.heap.size, 0, none⟩ 1 1 [.int .i64 (k : Int)] rfl rfl (World.news_of_block (cs := #[.int .i64 (k : Int)]) (t := 3) (fr := (0, 0)) (heap_alloc_new _ _)) (by simp [Value.oneCell']) (by omega) (by unfold maxLen; omega) (by omega) (by simp; omega) (wE.heap.size + 1) (by simp) ?_; intro gg gcap w9 hown1 hgrow hat hltg)
        go_roundw
        case rel =>
          refine ⟨k + 1, by omega, by go_num, ?_, app_below hbel hsz HO.out hgrow⟩
          rw [HST.out]
          exact row_congr hown1 (by simp) (by simp [ints])
        case measure => simp [intOf]; omega
      · have hd : (x == y) = false := by simpa using ht
        have HST := Lib.hid (hpm ht)
        have HO := Lib.hid hown
        clear ht hph hpm hown
        go_wp2_with fail
        go_roundw
        case rel =>
          refine ⟨k + 1, by omega, by go_num, ?_, hbel⟩
          rw [HST.out]
          exact HO.out
        case measure => simp [intOf]; omega

set_option maxHeartbeats 1600000 in
theorem nuSum_p (ad : Option Addr) (cap : Nat) (l : List Int) (w : World) (hr : RdI w ad l) (hl : l.length ≤ 1048576) :
    Calls Tryz.prog 58 #[.slice ad l.length cap] w fun e w' => e = .returned (.int .i64 (minL l)) ∧ w = w' := by
  have HR := Lib.hid hr; clear hr
  go_enter Tryz.func58, Tryz.ntmps58
  go_wp2_with fail
  go_loopw [3, 8] (fun s i wr => ∃ k : Nat, k ≤ l.length ∧ i = .int .i64 k ∧ s = .int .i64 (minL (l.take k)) ∧ w = wr) (fun _ i _ => l.length - (intOf i).toNat)
  case atStart => exact ⟨0, Nat.zero_le _, rfl, rfl, rfl⟩
  case round =>
    obtain ⟨k, hk, rfl, rfl, rfl⟩ := hrel
    by_cases hlt : k < l.length
    case neg =>
      obtain rfl : k = l.length := by omega
      rw [List.take_length]
      go_wp2_with fail
      go_ret
      exact ⟨rfl, rfl⟩
    case pos =>
      obtain ⟨b, off, rfl, hb, c0⟩ := HR.out k hlt
      have hst := (show minL (l.take (k + 1)) = min (minL (l.take k)) (l.getD k 0) by
        unfold minL
        rw [List.take_succ_eq_append_getElem hlt, List.foldl_append, List.getD_eq_getElem?_getD, List.getElem?_eq_getElem hlt]; rfl)
      generalize l.getD k 0 = y at c0 hst
      generalize minL (l.take k) = z at hst ⊢
      have cl := fun w => l1Least_n z y w
      rw [show leastZ z y = min z y by unfold leastZ; split <;> omega, ← hst] at cl
      have CL := Lib.hid cl
      have x1 : (0 : Int) ≤ (k : Int) := by omega
      have x2 : (k : Int) < (l.length : Int) := by omega
      clear cl hst
      go_wp2_with fail
      refine (CL.out _).mono ?_
      rintro e w1 ⟨rfl, rfl⟩
      go_wp2_with fail
      go_roundw
      case rel => exact ⟨k + 1, by omega, by go_num, rfl, trivial⟩
      case measure => simp [intOf]; omega

set_option maxHeartbeats 800000 in
set_option maxRecDepth 100000 in
theorem nuPlaces_p (ad : Option Addr) (cap : Nat) (xs : List Int) (w : World) (hl : xs.length ≤ 1048576) (hr : RdI w ad xs) :
    Calls Tryz.prog 35 #[.slice ad xs.length cap] w fun e w' => ∃ v, e = .returned v ∧ RowI w' w.heap.size v (plcF xs (minL xs) xs.length) ∧ Below w.heap.size w w' := by
  obtain ⟨i0, hi0, hz0, hz1, hz2⟩ := info_parts Tryz.infoI
  have cs := Lib.hid (nuSum_p ad cap xs w hr hl)
  have HR1 := Lib.hid hr; clear hr
  generalize minL xs = y at cs ⊢
  go_enter Tryz.func35, Tryz.ntmps35
  go_wp2_with fail
  refine cs.out.mono ?_
  rintro e w1 ⟨rfl, rfl⟩
  go_wp2_with fail
  go_loopw [3, 11] (fun v i wr => ∃ k : Nat, k ≤ xs.length ∧ i = .int .i64 k ∧ RowI wr w.heap.size v (plcF xs y k) ∧ Below w.heap.size w wr) (fun _ i _ => xs.length - (intOf i).toNat)
  case atStart => exact ⟨0, Nat.zero_le _, rfl, RowI.nil _ _, Below.refl _ _⟩
  case round =>
    obtain ⟨wE, rfl⟩ : ∃ u : World, u = wr := ⟨_, rfl⟩
    obtain ⟨k, hk, rfl, hown, hbel⟩ := hrel
    have hsl := plc_len xs y k
    have hsz := hbel.size
    by_cases hlt : k < xs.length
    case neg =>
      obtain rfl : k = xs.length := by omega
      have HO := Lib.hid hown; clear hown
      go_wp2_with fail
      go_ret
      exact ⟨_, rfl, HO.out, hbel⟩
    case pos =>
      obtain ⟨b, off, rfl, hb, c⟩ := HR1.out k hlt
      have r2 := bcell hbel hb c
      clear c
      have hph := fun h => plc_hit (l := xs) (n := y) (k := k) h
      have hpm := fun h => plc_miss (l := xs) (n := y) (k := k) h
      generalize xs.getD k 0 = x at r2 hph hpm
      have x1 : (0 : Int) ≤ (k : Int) := by omega
      have x2 : (k : Int) < (xs.length : Int) := by omega
      generalize plcF xs y k = L at hown hph hpm hsl
      by_cases ht : x = y
      · have hd : (x == y) = true := by simpa using ht
        have HST := Lib.hid (hph ht)
        have HO := Lib.hid hown
        clear ht hph hpm hown
        go_wp2_with (at_builtin; refine wpList_append_lies _ rfl _ _ _ rfl w.heap.size 3 i0 _ 1 8 Tryz.underlying24 hi0 hz0 hz1 hz2 rfl (by omega) _ L.length (ints L) rfl (HO.out.alloc _) ⟨wE.heap.size, 0, none⟩ 1 1 [.int .i64 (k : Int)] rfl rfl (World.news_of_block (cs := #[.int .i64 (k : Int)]) (t := 3) (fr := (0, 0)) (heap_alloc_new _ _)) (by simp [Value.oneCell']) (by omega) (by unfold maxLen; omega) (by omega) (by simp; omega) (wE.heap.size + 1) (by simp) ?_; intro gg gcap w9 hown1 hgrow hat hltg)
        go_roundw
        case rel =>
          refine ⟨k + 1, by omega, by go_num, ?_, app_below hbel hsz HO.out hgrow⟩
          rw [HST.out]
          exact row_congr hown1 (by simp) (by simp [ints])
        case measure => simp [intOf]; omega
      · have hd : (x == y) = false := by simpa using ht
        have HST := Lib.hid (hpm ht)
        have HO := Lib.hid hown
        clear ht hph hpm hown
        go_wp2_with fail
        go_roundw
        case rel =>
          refine ⟨k + 1, by omega, by go_num, ?_, hbel⟩
          rw [HST.out]
          exact HO.out
        case measure => simp [intOf]; omega
end Go.Proofs.YtfcdmdamniijbaaGreatDoor

/-
  Least terms and slopes of a polynomial, both sides. By an AI agent.
-/
namespace Go.Proofs.YtfcdmdamniijbaaGreatDoor
open Go.RowKit

theorem polyV_ls (p : List Int) (x : Int) : polyV p x = pairV (if lsB p x = true then minL (valsF p x) else 0) (lsB p x) := by
  unfold polyV lsB
  cases polyB p with
  | false => simp
  | true =>
    cases finB' x with
    | false => simp
    | true => simp [toldZ]
def slV (p : List Int) (x : Int) : Value := .tuple #[.int .i64 (if lsB p x = true then (lsL p x).getD ((lsL p x).length - 1) 0 else 0), .int .i64 (if lsB p x = true then (lsL p x).getD 0 0 else 0), .bool (lsB p x)]
theorem ls_parts {p : List Int} {x : Int} (h : lsB p x = true) : polyB p = true ∧ finB' x = true := by
  unfold lsB at h
  simp only [Bool.and_eq_true] at h
  exact ⟨h.1, h.2.1⟩

set_option maxHeartbeats 1600000 in
theorem iLeastTerms_c (ad : Option Addr) (cap : Nat) (p : List Int) (x : Int) (w : World) (hr : RdI w ad p) (hl : p.length ≤ 1048576) :
    Calls Tryz.prog 12 #[.slice ad p.length cap, .int .i64 x] w (IntsO w (lsB p x) (if lsB p x = true then lsL p x else [])) := by
  have c1 := iPolyValue_c ad cap p x w hr hl
  rw [polyV_ls] at c1
  have c2 := fun w hr hp hx => values_c ad cap p x w hr hp hx
  have c3 := fun ad cap w h => placesOf_p ad cap (valsF p x) (minL (valsF p x)) w (by rw [valsF_len]; exact hl) h
  have hls := fun h => ls_parts (p := p) (x := x) h
  have hxx := fun h => inB_t.1 (show inB x (-1000000) 1000000 = true from h)
  have HR := Lib.hid hr; clear hr
  unfold lsL
  unfold pairV at c1
  generalize valsF p x = L at c1 c2 c3 ⊢
  generalize minL L = M at c1 c3 ⊢
  generalize plcF L M L.length = Q at c3 ⊢
  obtain ⟨u, hu⟩ : ∃ u, lsB p x = u := ⟨_, rfl⟩
  rw [hu] at c1 hls ⊢
  clear hu
  have C1 := Lib.hid c1; have C2 := Lib.hid c2; have C3 := Lib.hid c3; clear c1 c2 c3
  cases u
  case false =>
    rw [if_neg (by simp)] at C1 ⊢
    go_enter Tryz.func12, Tryz.ntmps12
    go_wp2_with fail
    refine C1.out.mono ?_
    rintro e w1 ⟨rfl, hb1⟩
    go_wp2_with fail
    go_ret2
    exact ⟨none, 0, rfl, RdI.nil _ _, hb1⟩
  case true =>
    rw [if_pos rfl] at C1 ⊢
    obtain ⟨hp, hx⟩ := hls rfl
    have hx1 := hxx hx
    clear hls hxx
    have HP := Lib.hid hp; clear hp hx
    go_enter Tryz.func12, Tryz.ntmps12
    go_wp2_with fail
    refine C1.out.mono ?_
    rintro e w1 ⟨rfl, hb1⟩
    go_wp2_with fail
    refine (C2.out w1 (HR.out.below hb1) HP.out hx1).mono ?_
    rintro e w2 ⟨v2, rfl, hrow, hw2⟩
    obtain ⟨ad2, cap2, rfl, hrd⟩ := hrow.shape
    have HRD := Lib.hid hrd; clear hrow hrd
    go_wp2_with fail
    refine (C3.out _ _ _ HRD.out).mono ?_
    rintro e w3 ⟨v3, rfl, hrow3, hw3⟩
    obtain ⟨ad3, cap3, rfl, hrd3⟩ := hrow3.shape
    have HRD3 := Lib.hid hrd3; clear hrow3 hrd3
    go_wp2_with fail
    go_ret2
    exact ⟨ad3, cap3, rfl, HRD3.out, ball hb1 (ball hw2 hw3)⟩

set_option maxHeartbeats 1600000 in
theorem poAsked_c (ad : Option Addr) (cap : Nat) (p : List Int) (x : Int) (w : World) (hr : RdI w ad p) (hl : p.length ≤ 1048576) :
    Calls Tryz.prog 34 #[.slice ad p.length cap, .int .i64 x] w fun e w' => e = .returned (.bool (lsB p x)) ∧ Below w.heap.size w w' := by
  have c1 := poGood_c ad cap p w hr hl
  have c2 := fun w => poFin_k x w
  have c3 := fun w hr hp hx => poTerms_c ad cap p x w hr hp hx
  have c4 := fun ad cap w h => nuSum_p ad cap (valsF p x) w h (by rw [valsF_len]; exact hl)
  have c5 := fun w => poFin_k (minL (valsF p x)) w
  have hxx := fun h => inB_t.1 (show inB x (-1000000) 1000000 = true from h)
  have hmf := fun h1 h2 => min_fin (p := p) (x := x) h1 h2
  have HR := Lib.hid hr; clear hr
  unfold lsB finB' at *
  generalize valsF p x = L at c3 c4 c5 hmf ⊢
  generalize minL L = M at c4 c5 hmf ⊢
  generalize numB M = B at hmf ⊢
  generalize inB M (-1000000) 1000000 = D at c5 hmf
  obtain ⟨u, hu⟩ : ∃ u, polyB p = u := ⟨_, rfl⟩
  rw [hu] at c1 hmf ⊢
  obtain ⟨v, hv⟩ : ∃ v, inB x (-1000000) 1000000 = v := ⟨_, rfl⟩
  rw [hv] at c2 hmf hxx ⊢
  have HU := Lib.hid hu
  clear hu hv
  have C1 := Lib.hid c1; have C2 := Lib.hid c2; have C3 := Lib.hid c3; have C4 := Lib.hid c4; have C5 := Lib.hid c5; clear c1 c2 c3 c4 c5
  cases u
  case false =>
    rw [Bool.false_and]
    go_enter Tryz.func34, Tryz.ntmps34
    go_wp2_with fail
    refine C1.out.mono ?_
    rintro e w1 ⟨rfl, rfl⟩
    go_wp2_with fail
    go_ret
    exact ⟨rfl, Below.refl _ _⟩
  case true =>
    cases v
    case false =>
      rw [Bool.false_and, Bool.and_false]
      go_enter Tryz.func34, Tryz.ntmps34
      go_wp2_with fail
      refine C1.out.mono ?_
      rintro e w1 ⟨rfl, rfl⟩
      go_wp2_with fail
      refine (C2.out _).mono ?_
      rintro e w1 ⟨rfl, rfl⟩
      go_wp2_with fail
      go_ret
      exact ⟨rfl, Below.refl _ _⟩
    case true =>
      rw [Bool.true_and, Bool.true_and]
      obtain rfl := hmf rfl rfl
      have hx1 := hxx rfl
      clear hmf hxx
      go_enter Tryz.func34, Tryz.ntmps34
      go_wp2_with fail
      refine C1.out.mono ?_
      rintro e w1 ⟨rfl, rfl⟩
      go_wp2_with fail
      refine (C2.out _).mono ?_
      rintro e w1 ⟨rfl, rfl⟩
      go_wp2_with fail
      refine (C3.out _ HR.out HU.out hx1).mono ?_
      rintro e w2 ⟨v2, rfl, hrow, hw2⟩
      obtain ⟨ad2, cap2, rfl, hrd⟩ := hrow.shape
      have HRD := Lib.hid hrd; clear hrow hrd
      go_wp2_with fail
      refine (C4.out _ _ _ HRD.out).mono ?_
      rintro e w3 ⟨rfl, rfl⟩
      go_wp2_with fail
      refine (C5.out _).mono ?_
      rintro e w3 ⟨rfl, rfl⟩
      go_wp2_with fail
      go_ret
      exact ⟨rfl, hw2⟩

set_option maxHeartbeats 1600000 in
theorem sLeastTerms_c (ad : Option Addr) (cap : Nat) (p : List Int) (x : Int) (w : World) (hr : RdI w ad p) (hl : p.length ≤ 1048576) :
    Calls Tryz.prog 13 #[.slice ad p.length cap, .int .i64 x] w (IntsO w (lsB p x) (if lsB p x = true then lsL p x else [])) := by
  have c1 := poAsked_c ad cap p x w hr hl
  have c2 := fun w hr hp hx => poTerms_c ad cap p x w hr hp hx
  have c3 := fun ad cap w h => nuPlaces_p ad cap (valsF p x) w (by rw [valsF_len]; exact hl) h
  have hls := fun h => ls_parts (p := p) (x := x) h
  have hxx := fun h => inB_t.1 (show inB x (-1000000) 1000000 = true from h)
  have HR := Lib.hid hr; clear hr
  unfold lsL
  generalize valsF p x = L at c2 c3 ⊢
  generalize plcF L (minL L) L.length = Q at c3 ⊢
  obtain ⟨u, hu⟩ : ∃ u, lsB p x = u := ⟨_, rfl⟩
  rw [hu] at c1 hls ⊢
  clear hu
  have C1 := Lib.hid c1; have C2 := Lib.hid c2; have C3 := Lib.hid c3; clear c1 c2 c3
  cases u
  case false =>
    rw [if_neg (by simp)]
    go_enter Tryz.func13, Tryz.ntmps13
    go_wp2_with fail
    refine C1.out.mono ?_
    rintro e w1 ⟨rfl, hb1⟩
    go_wp2_with fail
    go_ret2
    exact ⟨none, 0, rfl, RdI.nil _ _, hb1⟩
  case true =>
    rw [if_pos rfl]
    obtain ⟨hp, hx⟩ := hls rfl
    have hx1 := hxx hx
    clear hls hxx
    have HP := Lib.hid hp; clear hp hx
    go_enter Tryz.func13, Tryz.ntmps13
    go_wp2_with fail
    refine C1.out.mono ?_
    rintro e w1 ⟨rfl, hb1⟩
    go_wp2_with fail
    refine (C2.out w1 (HR.out.below hb1) HP.out hx1).mono ?_
    rintro e w2 ⟨v2, rfl, hrow, hw2⟩
    obtain ⟨ad2, cap2, rfl, hrd⟩ := hrow.shape
    have HRD := Lib.hid hrd; clear hrow hrd
    go_wp2_with fail
    refine (C3.out _ _ _ HRD.out).mono ?_
    rintro e w3 ⟨v3, rfl, hrow3, hw3⟩
    obtain ⟨ad3, cap3, rfl, hrd3⟩ := hrow3.shape
    have HRD3 := Lib.hid hrd3; clear hrow3 hrd3
    go_wp2_with fail
    go_ret2
    exact ⟨ad3, cap3, rfl, HRD3.out, ball hb1 (ball hw2 hw3)⟩

set_option maxHeartbeats 1600000 in
theorem iSlopesAt_c (ad : Option Addr) (cap : Nat) (p : List Int) (x : Int) (w : World) (hr : RdI w ad p) (hl : p.length ≤ 1048576) :
    Calls Tryz.prog 10 #[.slice ad p.length cap, .int .i64 x] w fun e w' => e = .returned (slV p x) ∧ Below w.heap.size w w' := by
  have c1 := iLeastTerms_c ad cap p x w hr hl
  have hls := fun h => ls_parts (p := p) (x := x) h
  have hps := fun h1 h2 => lsL_pos (p := p) (x := x) h1 h2
  have hll := lsL_len p x
  clear hr
  unfold slV
  obtain ⟨u, hu⟩ : ∃ u, lsB p x = u := ⟨_, rfl⟩
  rw [hu] at c1 hls ⊢
  generalize lsL p x = Q at c1 hps hll ⊢
  clear hu
  have C1 := Lib.hid c1; clear c1
  cases u
  case false =>
    rw [if_neg (by simp)] at C1
    rw [if_neg (by simp), if_neg (by simp)]
    go_enter Tryz.func10, Tryz.ntmps10
    go_wp2_with fail
    refine C1.out.mono ?_
    rintro e w1 ⟨ad2, cap2, rfl, hrd, hb1⟩
    clear hrd
    go_wp2_with fail
    exact bodyPost_ret (v := .tuple #[.int .i64 0, .int .i64 0, .bool false]) (by simp [results, Tryz.results10, go_sem]) rfl ⟨rfl, hb1⟩
  case true =>
    rw [if_pos rfl] at C1
    rw [if_pos rfl, if_pos rfl]
    obtain ⟨hp, hx⟩ := hls rfl
    have hq := hps hp hx
    clear hls hps hp hx
    obtain ⟨n, hn⟩ : ∃ n, Q.length = n := ⟨_, rfl⟩
    have HN := Lib.hid hn
    rw [hn] at hq hll ⊢
    clear hn
    have hq2 : n ≤ 1048576 := by omega
    clear hll
    have wn : IntKind.i64.wrap ((n : Int) - 1) = ((n - 1 : Nat) : Int) := by rw [i64_small (by omega) (by omega)]; omega
    have x1 : (0 : Int) ≤ ((n - 1 : Nat) : Int) := by omega
    have x2 : ((n - 1 : Nat) : Int) < (n : Int) := by omega
    have x3 : (0 : Int) < (n : Int) := by omega
    go_enter Tryz.func10, Tryz.ntmps10
    go_wp2_with fail
    refine C1.out.mono ?_
    rintro e w1 ⟨ad2, cap2, rfl, hrd, hb1⟩
    rw [HN.out]
    obtain ⟨b, off, rfl, hb, c0⟩ := hrd 0 (by rw [HN.out]; exact hq)
    have c1 := hrd.at (j := n - 1) (by rw [HN.out]; omega)
    rw [Nat.add_zero] at c0
    obtain ⟨A, hA⟩ : ∃ A, Q.getD 0 0 = A := ⟨_, rfl⟩
    obtain ⟨B, hB⟩ : ∃ B, Q.getD (n - 1) 0 = B := ⟨_, rfl⟩
    rw [hA] at c0
    rw [hB] at c1
    have HA := Lib.hid hA; have HB := Lib.hid hB
    obtain ⟨m, hm⟩ : ∃ m, n - 1 = m := ⟨_, rfl⟩
    rw [hm] at c1 wn x1 x2
    clear hA hB
    clear hrd hm
    go_wp2_with (go_quiet (fail))
    exact bodyPost_ret (v := .tuple #[.int .i64 B, .int .i64 A, .bool true]) (by simp [results, Tryz.results10, go_sem]) rfl ⟨by rw [HA.out, HB.out], bdrewN hb1 _⟩

set_option maxHeartbeats 1600000 in
theorem sSlopesAt_c (ad : Option Addr) (cap : Nat) (p : List Int) (x : Int) (w : World) (hr : RdI w ad p) (hl : p.length ≤ 1048576) :
    Calls Tryz.prog 11 #[.slice ad p.length cap, .int .i64 x] w fun e w' => e = .returned (slV p x) ∧ Below w.heap.size w w' := by
  have c1 := poAsked_c ad cap p x w hr hl
  have c2 := fun w hr hp hx => poTerms_c ad cap p x w hr hp hx
  have c3 := fun ad cap w h => nuPlaces_p ad cap (valsF p x) w (by rw [valsF_len]; exact hl) h
  have hls := fun h => ls_parts (p := p) (x := x) h
  have hps := fun h1 h2 => lsL_pos (p := p) (x := x) h1 h2
  have hll := lsL_len p x
  have hxx := fun h => inB_t.1 (show inB x (-1000000) 1000000 = true from h)
  have HR := Lib.hid hr; clear hr
  unfold slV
  unfold lsL at *
  generalize valsF p x = L at c2 c3 hps hll ⊢
  generalize plcF L (minL L) L.length = Q at c3 hps hll ⊢
  obtain ⟨u, hu⟩ : ∃ u, lsB p x = u := ⟨_, rfl⟩
  rw [hu] at c1 hls ⊢
  clear hu
  have C1 := Lib.hid c1; have C2 := Lib.hid c2; have C3 := Lib.hid c3; clear c1 c2 c3
  cases u
  case false =>
    rw [if_neg (by simp), if_neg (by simp)]
    go_enter Tryz.func11, Tryz.ntmps11
    go_wp2_with fail
    refine C1.out.mono ?_
    rintro e w1 ⟨rfl, hb1⟩
    go_wp2_with fail
    exact bodyPost_ret (v := .tuple #[.int .i64 0, .int .i64 0, .bool false]) (by simp [results, Tryz.results11, go_sem]) rfl ⟨rfl, hb1⟩
  case true =>
    rw [if_pos rfl, if_pos rfl]
    obtain ⟨hp, hx⟩ := hls rfl
    have hx1 := hxx hx
    have hq := hps hp hx
    have HP := Lib.hid hp
    clear hls hps hp hx hxx
    obtain ⟨n, hn⟩ : ∃ n, Q.length = n := ⟨_, rfl⟩
    have HN := Lib.hid hn
    rw [hn] at hq hll ⊢
    clear hn
    have hq2 : n ≤ 1048576 := by omega
    clear hll
    have wn : IntKind.i64.wrap ((n : Int) - 1) = ((n - 1 : Nat) : Int) := by rw [i64_small (by omega) (by omega)]; omega
    have x1 : (0 : Int) ≤ ((n - 1 : Nat) : Int) := by omega
    have x2 : ((n - 1 : Nat) : Int) < (n : Int) := by omega
    have x3 : (0 : Int) < (n : Int) := by omega
    go_enter Tryz.func11, Tryz.ntmps11
    go_wp2_with fail
    refine C1.out.mono ?_
    rintro e w1 ⟨rfl, hb1⟩
    go_wp2_with fail
    refine (C2.out w1 (HR.out.below hb1) HP.out hx1).mono ?_
    rintro e w2 ⟨v2, rfl, hrow, hw2⟩
    obtain ⟨ad2, cap2, rfl, hrd⟩ := hrow.shape
    have HRD := Lib.hid hrd; clear hrow hrd
    go_wp2_with fail
    refine (C3.out _ _ _ HRD.out).mono ?_
    rintro e w3 ⟨v3, rfl, hrow3, hw3⟩
    obtain ⟨ad3, cap3, rfl, hrd⟩ := hrow3.shape
    rw [HN.out]
    obtain ⟨b, off, rfl, hb, c0⟩ := hrd 0 (by rw [HN.out]; exact hq)
    have c1 := hrd.at (j := n - 1) (by rw [HN.out]; omega)
    rw [Nat.add_zero] at c0
    obtain ⟨A, hA⟩ : ∃ A, Q.getD 0 0 = A := ⟨_, rfl⟩
    obtain ⟨B, hB⟩ : ∃ B, Q.getD (n - 1) 0 = B := ⟨_, rfl⟩
    rw [hA] at c0
    rw [hB] at c1
    have HA := Lib.hid hA; have HB := Lib.hid hB
    obtain ⟨m, hm⟩ : ∃ m, n - 1 = m := ⟨_, rfl⟩
    rw [hm] at c1 wn x1 x2
    clear hA hB
    clear hrd hm hrow3
    have hbb := ball hb1 (ball hw2 hw3)
    go_wp2_with (go_quiet (fail))
    exact bodyPost_ret (v := .tuple #[.int .i64 B, .int .i64 A, .bool true]) (by simp [results, Tryz.results11, go_sem]) rfl ⟨by rw [HA.out, HB.out], bdrewN hbb _⟩
end Go.Proofs.YtfcdmdamniijbaaGreatDoor

/-
  The mirror of a polynomial: the program's. By an AI agent.
-/
namespace Go.Proofs.YtfcdmdamniijbaaGreatDoor
open Go.RowKit

/-- A result with a list within its capacity. -/
def IntsC (w : World) (b : Bool) (l : List Int) (e : Ending) (w' : World) : Prop := ∃ ad cap, e = .returned (.tuple #[.slice ad l.length cap, .bool b]) ∧ RdI w' ad l ∧ l.length ≤ cap ∧ Below w.heap.size w w'
theorem RdI.dropP {w : World} {b off : Nat} {xs : List Int} (h : RdI w (some ⟨b, off, none⟩) xs) (k : Nat) : RdI w (some ⟨b, off + k, none⟩) (xs.drop k) := fun j hj => by
  have hj' : k + j < xs.length := by rw [List.length_drop] at hj; omega
  obtain ⟨b', off', e, hl, c0⟩ := h (k + j) hj'
  have e' : (xs.drop k).getD j 0 = xs.getD (k + j) 0 := by simp [List.getD_eq_getElem?_getD]
  cases e
  exact ⟨b, off + k, rfl, hl, by rw [e', show off + k + j = off + (k + j) by omega]; exact c0⟩
set_option maxRecDepth 100000 in
theorem cutPf {b off n cap F : Nat} (hF : F < n) (hn : n ≤ cap) (w' : World) : (Instr.slice 24 (.slice (some ⟨b, off, none⟩) n cap) (some (.int .i64 (F : Int))) none none).run Tryz.prog w' = .ok (.slice (some ⟨b, off + F, none⟩) (n - F) (cap - F)) w' := by
  rw [run_slice_l w' _ _ _ _ Tryz.underlying24 _ _ (by omega) (by omega)]
  have : ¬ cap = F := by omega
  simp [go_sem, this]
theorem chg_put {α : Type} [Inhabited α] (enc : α → Value) (w : World) (n blk off : Nat) (d : Array α) : Chg blk w (Sort.putRow enc (Sort.ahead w n) blk off d) :=
  ⟨rfl, rfl, rfl, by simp, fun k _ hb => by
    simp only [Sort.putRow, Sort.mapBlock, Array.getElem?_modify]
    rw [if_neg (fun e => hb e.symm)]
    rfl⟩
theorem rd_put (w : World) (n g : Nat) (E : TypeId) (L M : List Int) (ho : Own w g E (ints L)) (hl : M.length = L.length) : RdI (Sort.putRow (Value.int .i64) (Sort.ahead w n) g 0 M.toArray) (some ⟨g, 0, none⟩) M := fun j hj => by
  refine ⟨g, 0, rfl, ?_, ?_⟩
  · rw [Sort.size_putRow]; exact ho.lt
  · rw [Sort.cell?_putRow (Value.int .i64) (Sort.ahead w n) g 0 L.toArray M.toArray (fun i hi => ⟨?_, ?_⟩) (by simpa using hl) j (by simpa using hj)]
    · congr 2
      rw [getElem!_pos _ j (by simpa using hj), List.getD_eq_getElem?_getD, List.getElem?_eq_getElem hj]
      simp
    · have hi' : i < L.length := by simpa using hi
      rw [Sort.cell?_ahead, Nat.zero_add, ho.cell? (ints_get hi'), getElem!_pos _ i (by simpa using hi), List.getD_eq_getElem?_getD, List.getElem?_eq_getElem hi']
      simp
    · rw [Sort.frozen?_ahead, Nat.zero_add]; exact ho.frozen i
theorem holds_of {w : World} {g : Nat} {E : TypeId} {L : List Int} (ho : Own w g E (ints L)) : Sort.Holds (Value.int .i64) w g 0 L.toArray := fun i hi => by
  have hi' : i < L.length := by simpa using hi
  refine ⟨?_, by rw [Nat.zero_add]; exact ho.frozen i⟩
  rw [Nat.zero_add, ho.cell? (ints_get hi'), getElem!_pos _ i (by simpa using hi), List.getD_eq_getElem?_getD, List.getElem?_eq_getElem hi']
  simp

set_option maxHeartbeats 400000 in
theorem iIsPoly_c (ad : Option Addr) (cap : Nat) (p : List Int) (w : World) (hr : RdI w ad p) (hl : p.length ≤ 1048576) :
    Calls Tryz.prog 19 #[.slice ad p.length cap] w fun e w' => e = .returned (.bool (polyB p)) ∧ w = w' := by
  have C := Lib.hid (isPoly_c ad cap p w hr hl)
  clear hr
  generalize polyB p = u at C ⊢
  go_enter Tryz.func19, Tryz.ntmps19
  go_wp2_with fail
  refine C.out.mono ?_
  rintro e w1 ⟨rfl, rfl⟩
  go_wp2_with fail
  go_ret
  exact ⟨rfl, rfl⟩

set_option maxRecDepth 100000 in
set_option maxHeartbeats 1600000 in
theorem iMirrorPoly_c (ad : Option Addr) (cap : Nat) (p : List Int) (w : World) (hr : RdI w ad p) (hl : p.length ≤ 1048576) (hcap : p.length ≤ cap) :
    Calls Tryz.prog 15 #[.slice ad p.length cap] w (IntsC w (polyB p) (if polyB p = true then mirR p else [])) := by
  have c := isPoly_c ad cap p w hr hl
  obtain ⟨u, hu⟩ : ∃ u, polyB p = u := ⟨_, rfl⟩
  rw [hu] at c ⊢
  have C := Lib.hid c; clear c
  cases u
  case false =>
    clear hr hu
    go_enter Tryz.func15, Tryz.ntmps15
    go_wp2_with fail
    refine C.out.mono ?_
    rintro e w1 ⟨rfl, rfl⟩
    go_wp2_with fail
    go_ret2
    exact ⟨none, 0, rfl, RdI.nil _ _, Nat.le_refl _, Below.refl _ _⟩
  case true =>
    rw [if_pos rfl]
    have ce := ends_c ad cap p w hr hu
    obtain ⟨hln, _, hlast⟩ := polyB_m hu
    obtain ⟨f1, _, _⟩ := fin1_lt (by omega) hlast
    unfold mirR
    obtain ⟨b, off, rfl, hb, _⟩ := hr 0 (by omega)
    have hdr := hr.dropP (fin1 p)
    have hdl : (p.drop (fin1 p)).length = p.length - fin1 p := List.length_drop
    obtain ⟨n, hn⟩ : ∃ n, p.length = n := ⟨_, rfl⟩
    rw [hn] at hln f1 ce C hdl hcap ⊢
    generalize fin1 p = F at ce f1 hdr hdl ⊢
    obtain ⟨Q, hQ⟩ : ∃ Q, p.drop F = Q := ⟨_, rfl⟩
    rw [hQ] at hdr hdl ⊢
    obtain ⟨m, hm⟩ : ∃ m, n - F = m := ⟨_, rfl⟩
    obtain ⟨c2, hc2⟩ : ∃ c2, cap - F = c2 := ⟨_, rfl⟩
    have hcut := fun w => cutPf (b := b) (off := off) f1 hcap w
    rw [hm, hc2] at hcut
    rw [hm] at hdl
    have ccl := Tryz.slices_Clone_int b (off + F) m c2 Q w (by omega) (by omega) (fun j hj => hdr.at hj)
    rw [show Q.take m = Q from List.take_of_length_le (by omega)] at ccl
    have CCL := Lib.hid ccl; have HDL := Lib.hid hdl
    have hm0 : 0 < m := by omega
    have hm13 : m ≤ 13 := by omega
    obtain ⟨R, hR⟩ : ∃ R, Q.reverse = R := ⟨_, rfl⟩
    have HRL : Hid (R.length = m) := by show _ = _; rw [← hR, List.length_reverse]; exact HDL.out
    have HR := Lib.hid hR
    rw [hR]
    clear hR
    clear hr hu hlast hdr hQ ccl hdl hb hm hc2
    have x1 : (0 : Int) ≤ (F : Int) := by omega
    have x2 : (F : Int) ≤ (n : Int) := by omega
    go_enter Tryz.func15, Tryz.ntmps15
    go_wp2_with fail
    refine C.out.mono ?_
    rintro e w1 ⟨rfl, rfl⟩
    go_wp2_with fail
    refine ce.mono ?_
    rintro e w1 ⟨rfl, rfl⟩
    go_wp2_with fail
    refine CCL.out.mono ?_
    rintro e w2 ⟨v, rfl, hown, _, hb2⟩
    rcases Own.of_row hown with ⟨_, h0, _⟩ | ⟨g, cg, rfl, hg, hmc, _, ho⟩
    · exfalso; omega
    have ho2 : Own w2 g _ (ints Q) := ho
    have crv := Tryz.slices_Reverse_int g 0 cg Q w2 (holds_of ho2) (by have := HDL.out; omega)
    rw [HDL.out, HR.out] at crv
    have CRV := Lib.hid crv; have HO := Lib.hid ho2
    clear hown ho ho2 crv
    go_wp2_with fail
    refine CRV.out.mono ?_
    rintro e w3 ⟨rfl, nd, rfl⟩
    have hrd3 := Lib.hid (rd_put w2 nd g _ Q R HO.out (by rw [HRL.out, HDL.out]))
    have hch := Lib.hid (chg_put (Value.int .i64) w2 nd g 0 R.toArray)
    generalize Sort.putRow (Value.int .i64) (Sort.ahead w2 nd) g 0 R.toArray = w3 at hrd3 hch ⊢
    go_wp2_with fail
    go_ret2
    exact ⟨some ⟨g, 0, none⟩, cg, by rw [HRL.out]; rfl, hrd3.out, by rw [HRL.out]; exact hmc, bchg hb2 hch.out hg hb2.size⟩
end Go.Proofs.YtfcdmdamniijbaaGreatDoor
