/-
  The value of a polynomial at a number: the program's.
-/
import Derived.Test.YtfcdmdamniijbaaGreatDoorRtX
namespace Go.Proofs.YtfcdmdamniijbaaGreatDoor
open Go.RowKit

def minL (l : List Int) : Int := l.foldl min 1000000000
theorem foldl_min : ∀ (l : List Int) (s : Int), l.foldl min s ≤ s ∧ (∀ y ∈ l, l.foldl min s ≤ y) ∧ (l.foldl min s = s ∨ l.foldl min s ∈ l)
  | [], s => ⟨Int.le_refl _, fun y h => by simp at h, Or.inl rfl⟩
  | a :: l, s => by
    obtain ⟨h1, h2, h3⟩ := foldl_min l (min s a)
    rw [List.foldl_cons]
    refine ⟨by omega, fun y hy => ?_, ?_⟩
    · rcases List.mem_cons.1 hy with rfl | hy
      · omega
      · exact h2 y hy
    · rcases h3 with h | h
      · rcases Int.le_total s a with h4 | h4
        · exact Or.inl (by rw [h]; omega)
        · exact Or.inr (by rw [h, show min s a = a by omega]; simp)
      · exact Or.inr (List.mem_cons_of_mem _ h)
def valsF (p : List Int) (x : Int) : List Int := tab p.length fun e => prodZ (cof p e) ((e : Int) * x)
theorem ex_bd {p : List Int} (hp : polyB p = true) {x : Int} (hx : -1000000 ≤ x ∧ x ≤ 1000000) {e : Nat} (he : e < p.length) : -13000000 ≤ (e : Int) * x ∧ (e : Int) * x ≤ 13000000 := by
  have hpl := (polyB_t hp).1
  have := mulbF (K := 13) (M := 1000000) (k := (e : Int)) (m := x) (by omega) (by omega) hx
  omega
theorem min_is {p : List Int} (hp : polyB p = true) {x : Int} (hx : -1000000 ≤ x ∧ x ≤ 1000000) : IsMin (cof p) x (finK p p.length) (minL (valsF p x)) := by
  obtain ⟨hpl, hnum, hlast⟩ := polyB_t hp
  obtain ⟨h1, h2, h3⟩ := foldl_min (valsF p x) 1000000000
  have hval : ∀ e, e < p.length → cof p e ≠ 1000000000 → prodZ (cof p e) ((e : Int) * x) = ev (cof p) x e ∧ ev (cof p) x e ≤ 14000000 := fun e he hf => by
    have hb := ex_bd hp hx he
    have hn := numB_fin (hnum e he) hf
    have hn2 : -1000000 ≤ cof p e ∧ cof p e ≤ 1000000 := hn
    unfold prodZ ev
    rw [if_neg (by rintro (h | h); exact hf h; omega)]
    exact ⟨rfl, by omega⟩
  have hmem : ∀ e, e < p.length → prodZ (cof p e) ((e : Int) * x) ∈ valsF p x := fun e he => by
    unfold valsF tab
    exact List.mem_map.2 ⟨e, by simpa using he, rfl⟩
  have hfin : ∀ e, e ∈ finK p p.length → e < p.length ∧ cof p e ≠ 1000000000 := fun e he => finK_mem he
  have hl : cof p (p.length - 1) ≠ 1000000000 := hlast
  have hlow : minL (valsF p x) ≤ 14000000 := by
    have a := hval (p.length - 1) (by omega) hl
    have b := h2 _ (hmem (p.length - 1) (by omega))
    unfold minL
    omega
  refine ⟨?_, fun y hy => ?_⟩
  · rcases h3 with h | h
    · unfold minL at hlow; omega
    · unfold valsF tab at h
      obtain ⟨e, he, hv⟩ := List.mem_map.1 h
      have he' : e < p.length := by simpa using he
      by_cases hf : cof p e = 1000000000
      · exfalso
        have : prodZ (cof p e) ((e : Int) * x) = 1000000000 := by unfold prodZ; rw [if_pos (Or.inl hf)]
        unfold minL valsF tab at hlow
        omega
      · refine ⟨e, by simp [finK]; exact ⟨he', hf⟩, ?_⟩
        rw [← (hval e he' hf).1]
        exact hv
  · obtain ⟨h5, h6⟩ := hfin y hy
    rw [← (hval y h5 h6).1]
    exact h2 _ (hmem y h5)

set_option maxHeartbeats 1600000 in
theorem values_c (ad : Option Addr) (cap : Nat) (p : List Int) (x : Int) (w : World) (hr : RdI w ad p) (hp : polyB p = true) (hx : -1000000 ≤ x ∧ x ≤ 1000000) :
    Calls Tryz.prog 29 #[.slice ad p.length cap, .int .i64 x] w fun e w' => ∃ v, e = .returned v ∧ RowI w' w.heap.size v (valsF p x) ∧ Below w.heap.size w w' := by
  have hpl := (polyB_t hp).1
  have HEX := Lib.hid (fun e he => ex_bd (e := e) hp hx he)
  have HNUM := Lib.hid (polyB_t hp).2.1
  have HR := Lib.hid hr; clear hr
  obtain ⟨iI, hiI0, hiI1, hiI2, hiI3⟩ := info_parts Tryz.infoI
  have HVF := Lib.hid (show valsF p x = tab p.length fun e => prodZ (cof p e) ((e : Int) * x) from rfl)
  go_enter Tryz.func29, Tryz.ntmps29
  go_wp2_with fail
  go_loopw [5, 11] (fun v i wr => ∃ k : Nat, k ≤ p.length ∧ i = .int .i64 k ∧ RowI wr w.heap.size v (tab k fun e => prodZ (cof p e) ((e : Int) * x)) ∧ Below w.heap.size w wr) (fun _ i _ => p.length - (intOf i).toNat)
  case atStart => exact ⟨0, Nat.zero_le _, rfl, rowI_empty w, (Below.refl _ _).alloc (Nat.le_refl _) _⟩
  case round =>
    obtain ⟨wE, rfl⟩ : ∃ x : World, x = wr := ⟨_, rfl⟩
    obtain ⟨k, hk, rfl, hrow, hbel⟩ := hrel
    have HO := Lib.hid hrow; clear hrow
    by_cases hlt : k < p.length
    case neg =>
      obtain rfl : k = p.length := by omega
      go_wp2_with fail
      go_ret
      exact ⟨_, rfl, by rw [HVF.out]; exact HO.out, hbel⟩
    case pos =>
      obtain ⟨b, off, rfl, hb, c0⟩ := HR.out k hlt
      have d0 := bcell hbel hb c0
      clear c0
      rw [show p.getD k 0 = cof p k from rfl] at d0
      have hex := HEX.out k hlt
      have hnb := numB_bd (HNUM.out k hlt)
      rw [show p.getD k 0 = cof p k from rfl] at hnb
      have hst := Lib.hid (tab_succ k fun e => prodZ (cof p e) ((e : Int) * x))
      have htl := tab_length k fun e => prodZ (cof p e) ((e : Int) * x)
      have cp := fun w => product_c (cof p k) ((k : Int) * x) w (by omega)
      have e1 : IntKind.i64.wrap ((k : Int) * x) = (k : Int) * x := i64_small (by omega) (by omega)
      obtain ⟨y, hy⟩ : ∃ y, (k : Int) * x = y := ⟨_, rfl⟩
      have e2 := e1.trans hy
      rw [hy] at cp
      simp only [hy] at hst
      generalize cof p k = c at d0 cp hst
      generalize prodZ c y = z at cp hst
      obtain ⟨o, ho⟩ : ∃ o, (tab k fun e => prodZ (cof p e) ((e : Int) * x)) = o := ⟨_, rfl⟩
      rw [ho] at HO htl hst
      have CP := Lib.hid cp
      have hzE := hbel.size
      obtain ⟨adv, capv, rfl, -, -⟩ := HO.out.shape2
      have HTL := Lib.hid htl
      rw [htl]
      have hk13 : k ≤ 13 := by omega
      have HON : Hid (wE.ownsRow w.heap.size 3 1 (.slice adv k capv) k (ints o)) := Lib.hid (by have := HO.out; unfold RowI at this; rwa [htl] at this)
      clear cp hy e1 ho htl hex hnb
      go_wp2_with fail
      refine (CP.out _).mono ?_
      rintro e w1 ⟨rfl, hww⟩
      subst hww
      go_wp2_with (at_builtin; refine wpList_append_lies _ rfl _ _ 24 rfl w.heap.size 3 iI _ 1 8 Tryz.underlying24 hiI0 hiI1 hiI2 hiI3 rfl (by omega) (.slice adv k capv) k (ints o) rfl (HON.out.alloc _) ⟨wE.heap.size, 0, none⟩ 1 1 [.int .i64 z] rfl rfl (World.news_of_block (cs := #[.int .i64 z]) (t := 3) (fr := (0, 0)) (heap_alloc_new _ _)) (by simp [Value.oneCell']) (by omega) (by unfold maxLen; omega) (by omega) (by simp; omega) (wE.heap.size + 1) (by simp) ?_; intro g5 cap5 wm hown hgrow hat hlt5; clear hat)
      have hbm := app_below hbel hzE HON.out hgrow
      go_roundw
      case rel => exact ⟨k + 1, by omega, by go_num, by rw [hst.out]; exact row_congr hown (by simp [HTL.out]) (by simp [ints]), hbm⟩
      case measure => simp [intOf]; omega

set_option maxHeartbeats 1600000 in
theorem sumOf_c (ad : Option Addr) (cap : Nat) (l : List Int) (w : World) (hr : RdI w ad l) (hl : l.length ≤ 1048576) :
    Calls Tryz.prog 38 #[.slice ad l.length cap] w fun e w' => e = .returned (.int .i64 (minL l)) ∧ w = w' := by
  have HR := Lib.hid hr; clear hr
  go_enter Tryz.func38, Tryz.ntmps38
  go_wp2_with fail
  go_loopw [3, 8] (fun s i wr => ∃ k : Nat, k ≤ l.length ∧ i = .int .i64 k ∧ s = .int .i64 (minL (l.take k)) ∧ w = wr) (fun _ i _ => l.length - (intOf i).toNat)
  case atStart => exact ⟨0, Nat.zero_le _, rfl, rfl, rfl⟩
  case round =>
    obtain ⟨k, hk, rfl, rfl, rfl⟩ := hrel
    by_cases hlt : k < l.length
    case neg =>
      obtain rfl : k = l.length := by omega
      rw [List.take_length]
      go_wp2_with fail
      go_ret
      exact ⟨rfl, rfl⟩
    case pos =>
      obtain ⟨b, off, rfl, hb, c0⟩ := HR.out k hlt
      have hst := Lib.hid (show minL (l.take (k + 1)) = min (minL (l.take k)) (l.getD k 0) by
        unfold minL
        rw [List.take_succ_eq_append_getElem hlt, List.foldl_append, List.getD_eq_getElem?_getD, List.getElem?_eq_getElem hlt]; rfl)
      generalize l.getD k 0 = y at c0 hst
      generalize minL (l.take k) = z at hst ⊢
      go_wp2_with fail
      all_goals
        go_roundw
        case rel => exact ⟨k + 1, by omega, by go_num, by rw [hst.out]; try (first | rfl | (congr 1; omega)), trivial⟩
        case measure => simp [intOf]; omega

def polyV (p : List Int) (x : Int) : Value := if (polyB p && finB' x) = true then pairV (toldZ (minL (valsF p x))) (numB (minL (valsF p x))) else pairV 0 false
set_option maxHeartbeats 1600000 in
theorem iPolyValue_c (ad : Option Addr) (cap : Nat) (p : List Int) (x : Int) (w : World) (hr : RdI w ad p) (hl : p.length ≤ 1048576) :
    Calls Tryz.prog 14 #[.slice ad p.length cap, .int .i64 x] w fun e w' => e = .returned (polyV p x) ∧ Below w.heap.size w w' := by
  have c1 := fun w hr => isPoly_c ad cap p w hr hl
  have c2 := fun w => isFinite_c x w
  have c3 := fun w hr hp hx => values_c ad cap p x w hr hp hx
  have c4 := fun ad cap w hr => sumOf_c ad cap (valsF p x) w hr (by unfold valsF; rw [tab_length]; exact hl)
  have c5 := fun w => told_c (minL (valsF p x)) w
  have hxx := fun h => inB_t.1 (show inB x (-1000000) 1000000 = true from h)
  have HR := Lib.hid hr; clear hr
  unfold polyV finB'
  generalize polyB p = u at c1 c3 ⊢
  generalize inB x (-1000000) 1000000 = v at c2 hxx ⊢
  unfold pairV at *
  generalize toldZ (minL (valsF p x)) = A at c5 ⊢
  generalize numB (minL (valsF p x)) = B at c5 ⊢
  generalize minL (valsF p x) = M at c4 c5
  have C1 := Lib.hid c1; have C2 := Lib.hid c2; have C3 := Lib.hid c3; have C4 := Lib.hid c4; have C5 := Lib.hid c5; clear c1 c2 c3 c4 c5
  cases u
  case false =>
    rw [Bool.false_and, if_neg (by simp)]
    go_enter Tryz.func14, Tryz.ntmps14
    go_wp2_with fail
    refine (C1.out _ HR.out).mono ?_
    rintro e w1 ⟨rfl, rfl⟩
    go_wp2_with fail
    go_ret2
    exact ⟨rfl, Below.refl _ _⟩
  case true =>
    cases v
    case false =>
      rw [Bool.and_false, if_neg (by simp)]
      go_enter Tryz.func14, Tryz.ntmps14
      go_wp2_with fail
      refine (C1.out _ HR.out).mono ?_
      rintro e w1 ⟨rfl, rfl⟩
      go_wp2_with fail
      refine (C2.out _).mono ?_
      rintro e w1 ⟨rfl, rfl⟩
      go_wp2_with fail
      go_ret2
      exact ⟨rfl, Below.refl _ _⟩
    case true =>
      rw [Bool.and_self, if_pos rfl]
      have hx1 := hxx rfl
      go_enter Tryz.func14, Tryz.ntmps14
      go_wp2_with fail
      refine (C1.out _ HR.out).mono ?_
      rintro e w1 ⟨rfl, rfl⟩
      go_wp2_with fail
      refine (C2.out _).mono ?_
      rintro e w1 ⟨rfl, rfl⟩
      go_wp2_with fail
      refine (C3.out _ HR.out trivial hx1).mono ?_
      rintro e w2 ⟨v2, rfl, hrow, hw2⟩
      obtain ⟨ad2, cap2, rfl, hrd⟩ := hrow.shape
      have HRD := Lib.hid hrd; clear hrow hrd
      go_wp2_with fail
      refine (C4.out _ _ _ HRD.out).mono ?_
      rintro e w3 ⟨rfl, rfl⟩
      go_wp2_with fail
      refine (C5.out _).mono ?_
      rintro e w3 ⟨rfl, rfl⟩
      go_wp2_with fail
      go_ret2
      exact ⟨rfl, hw2⟩

end Go.Proofs.YtfcdmdamniijbaaGreatDoor
