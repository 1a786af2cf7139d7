/-
  Some texts of this proof in one: CnE CnF. Each part tells what it proves. By an AI agent.
-/
import Derived.Test.YtcionneopgdebaaGreatCnA
import Derived.Test.YtcionneopgdebaaGreatCpQ
import Derived.Test.YtcionneopgdebaaGreatCsT
import Derived.Test.YtcionneopgdebaaGreatCpZ

/-
  CellsOf and NewtonPolygon: the program's and the reference's. By an AI agent.
-/
namespace Go.Proofs.YtcionneopgdebaaGreat
open Go.RowKit

def PtsO (B : Bool) (H : List Pt) (w : World) (e : Ending) (w' : World) : Prop := ∃ ad c, e = .returned (.tuple #[.slice ad (if B = true then H else []).length c, .bool B]) ∧ RdP w' ad (if B = true then H else []) ∧ Below w.heap.size w w'
theorem PtsO.no {H : List Pt} {w w' : World} (hb : Below w.heap.size w w') : PtsO false H w (.returned (.tuple #[.slice none 0 0, .bool false])) w' := ⟨none, 0, rfl, (fun i hi => by simp at hi), hb⟩
theorem PtsO.yes {H : List Pt} {w w' : World} {a : Option Addr} {c : Nat} (h : RdP w' a H) (hb : Below w.heap.size w w') : PtsO true H w (.returned (.tuple #[.slice a H.length c, .bool true])) w' := ⟨a, c, rfl, h, hb⟩
theorem RowP.rd_any {w : World} {B : Nat} {v : Value} {l : List Pt} (h : RowP w B v l) : ∃ ad cap, v = .slice ad l.length cap ∧ RdP w ad l := by
  obtain ⟨ad, cap, rfl, _, _⟩ := h.shape
  exact ⟨ad, cap, rfl, h.rd⟩
theorem ptsL_sh {L : List Tm} (hp : ∀ k, k < L.length → termB (tmAt L k) = true) : AllSh (ptsL L L.length) := fun q hq => by
  have h1 : q ∈ ptA L := by unfold ptA; rw [pySortF_mem]; exact hq
  obtain ⟨t, ht, rfl⟩ := (ptA_mem q).1 h1
  have := termB_t (hp t ht)
  exact ⟨by show _ ≤ (tmAt L t).i; omega, by show (tmAt L t).i ≤ _; omega, by show _ ≤ (tmAt L t).j; omega, by show (tmAt L t).j ≤ _; omega⟩

set_option maxHeartbeats 800000 in
theorem iCellsOf_c (ad : Option Addr) (cap : Nat) (L : List Tm) (w : World) (hr : RdT w ad L) (hl : L.length ≤ 1048576) :
    Calls Tryz.prog 6 #[.slice ad L.length cap] w (LstO (planeB L) (celA L) w) := by
  have CI := Lib.hid (subdivided_c ad cap L w hr hl)
  cases hB : planeB L
  case false =>
    rw [hB] at CI
    have HQ := Lib.hid (fun w' (h : Below w.heap.size w w') => LstO.no (M := celA L) h)
    generalize LstO false (celA L) w = Q at HQ ⊢
    generalize L.length = n at CI ⊢
    clear hr hB hl
    go_enter Tryz.func6, Tryz.ntmps6
    go_wp2_with fail
    refine CI.out.mono ?_
    rintro e w1 ⟨hb1, he⟩
    rw [if_neg (by simp)] at he
    subst he
    go_wp2_with fail
    exact HQ.out _ hb1
  case true =>
    rw [hB] at CI
    obtain ⟨h0, h12, hp⟩ := planeB_t hB
    have HS := Lib.hid (fun w' S d (h : SubM w' S L (.slice ad L.length cap) d) (hb : Below w.heap.size w w') => show ∃ v, w'.cell? ⟨S, 2, none⟩ = some v ∧ S < w'.heap.size ∧ LstO true (celA L) w (.returned (.tuple #[v, .bool true])) w' from by
      have k3 := h.own.cell? (i := 2) rfl
      refine ⟨_, k3, h.own.lt, ?_⟩
      exact LstO.yes h.cells.rd hb)
    generalize LstO true (celA L) w = Q at HS ⊢
    obtain ⟨n, hn⟩ : ∃ n, L.length = n := ⟨_, rfl⟩
    rw [hn] at CI HS ⊢
    clear hr hB hl hn h0 h12 hp
    go_enter Tryz.func6, Tryz.ntmps6
    go_wp2_with fail
    refine CI.out.mono ?_
    rintro e w1 ⟨hb1, he⟩
    rw [if_pos rfl] at he
    obtain ⟨S, d, rfl, hsm⟩ := he
    obtain ⟨v, k3, hS, hf⟩ := HS.out w1 S d hsm hb1
    have HF := Lib.hid hf
    clear hsm CI HS hf
    go_wp2_with fail
    exact HF.out


set_option maxHeartbeats 800000 in
theorem sCellsOf_c (ad : Option Addr) (cap : Nat) (L : List Tm) (w : World) (hr : RdT w ad L) (hl : L.length ≤ 1048576) :
    Calls Tryz.prog 7 #[.slice ad L.length cap] w (LstO (planeB L) (celA L) w) := by
  have CI := Lib.hid (plGood_c ad cap L w hr hl)
  cases hB : planeB L
  case false =>
    rw [hB] at CI
    have HQ := Lib.hid (fun w' (h : Below w.heap.size w w') => LstO.no (M := celA L) h)
    generalize LstO false (celA L) w = Q at HQ ⊢
    generalize L.length = n at CI ⊢
    clear hr hB hl
    go_enter Tryz.func7, Tryz.ntmps7
    go_wp2_with fail
    refine CI.out.mono ?_
    rintro e w1 ⟨rfl, hb1⟩
    go_wp2_with fail
    exact HQ.out _ hb1
  case true =>
    rw [hB] at CI
    obtain ⟨h0, h12, hp⟩ := planeB_t hB
    obtain ⟨bl, ol, rfl, _⟩ := hr 0 h0
    have CE := Lib.hid (fun u (h : Below w.heap.size w u) => show Calls Tryz.prog 27 #[.slice (some ⟨bl, ol, none⟩) L.length cap] u fun e w2 => ∃ v, e = .returned v ∧ LstO true (celA L) w (.returned (.tuple #[v, .bool true])) w2 from by
      refine (ceOf_c bl ol cap L u (hr.below h) hp h12 h0).mono ?_
      rintro e w2 ⟨a2, c2, vs, rfl, hm, hb⟩
      exact ⟨_, rfl, LstO.yes hm.rd (ball h hb)⟩)
    generalize LstO true (celA L) w = Q at CE ⊢
    obtain ⟨n, hn⟩ : ∃ n, L.length = n := ⟨_, rfl⟩
    rw [hn] at CI CE ⊢
    clear hr hB hl hn h0 h12 hp
    go_enter Tryz.func7, Tryz.ntmps7
    go_wp2_with fail
    refine CI.out.mono ?_
    rintro e w1 ⟨rfl, hb1⟩
    have CE1 := Lib.hid (CE.out w1 hb1)
    go_wp2_with fail
    refine CE1.out.mono ?_
    rintro e w2 ⟨v, rfl, hq⟩
    have HQ := Lib.hid hq; clear hq
    go_wp2_with fail
    exact HQ.out

set_option maxHeartbeats 800000 in
theorem iNewtonPolygon_c (ad : Option Addr) (cap : Nat) (L : List Tm) (w : World) (hr : RdT w ad L) (hl : L.length ≤ 1048576) :
    Calls Tryz.prog 10 #[.slice ad L.length cap] w (PtsO (planeB L) (hulA L) w) := by
  have CI := Lib.hid (isPlane_c ad cap L w hr hl)
  cases hB : planeB L
  case false =>
    rw [hB] at CI
    have HQ := Lib.hid (fun w' (h : Below w.heap.size w w') => PtsO.no (H := hulA L) h)
    generalize PtsO false (hulA L) w = Q at HQ ⊢
    generalize L.length = n at CI ⊢
    clear hr hB hl
    go_enter Tryz.func10, Tryz.ntmps10
    go_wp2_with fail
    refine CI.out.mono ?_
    rintro e w1 ⟨rfl, hb1⟩
    go_wp2_with fail
    exact HQ.out _ hb1
  case true =>
    rw [hB] at CI
    obtain ⟨h0, h12, hp⟩ := planeB_t hB
    have CP := Lib.hid (fun u (h : Below w.heap.size w u) => pointsOf_c ad cap L u (hr.below h) h12)
    have CH := Lib.hid (fun u a c (h : RdP u a (ptsL L L.length)) => show Calls Tryz.prog 32 #[.slice a L.length c] u (HullTo u (hulA L)) from by
      have := hull_c a c (ptsL L L.length) u h (by rw [ptsL_len]; omega) (by rw [ptsL_len]; omega) (ptsL_sh hp)
      rw [ptsL_len] at this
      exact this)
    have HY := Lib.hid (fun w2 a c (h1 : RdP w2 a (hulA L)) (h : Below w.heap.size w w2) => PtsO.yes (c := c) h1 h)
    have HLP := Lib.hid (ptsL_len L L.length)
    generalize PtsO true (hulA L) w = Q at HY ⊢
    obtain ⟨n, hn⟩ : ∃ n, L.length = n := ⟨_, rfl⟩
    rw [hn] at CI CP CH HLP ⊢
    generalize ptsL L n = PL at CP CH HLP
    unfold HullTo at CH
    clear hr hB hl hn h0 h12 hp
    go_enter Tryz.func10, Tryz.ntmps10
    go_wp2_with fail
    refine CI.out.mono ?_
    rintro e w1 ⟨rfl, hb1⟩
    have CP1 := Lib.hid (CP.out w1 hb1)
    go_wp2_with fail
    refine CP1.out.mono ?_
    rintro e w2 ⟨v2, rfl, hrow, hb2⟩
    have hrd := hrow.rd_any
    obtain ⟨a2, c2, rfl, hrd⟩ := hrd
    rw [HLP.out]
    have CH1 := Lib.hid (CH.out w2 a2 c2 hrd)
    have HB2 := Lib.hid (ball hb1 hb2)
    clear hrow hrd hb1 hb2 CP CP1 CI
    go_wp2_with fail
    refine CH1.out.mono ?_
    rintro e w3 ⟨a3, c3, rfl, hr3, hb3⟩
    have HF := Lib.hid (HY.out w3 a3 c3 hr3 (ball HB2.out hb3))
    clear hr3 hb3
    go_wp2_with fail
    exact HF.out

set_option maxHeartbeats 800000 in
theorem sNewtonPolygon_c (ad : Option Addr) (cap : Nat) (L : List Tm) (w : World) (hr : RdT w ad L) (hl : L.length ≤ 1048576) :
    Calls Tryz.prog 11 #[.slice ad L.length cap] w (PtsO (planeB L) (hulA L) w) := by
  have CI := Lib.hid (plGood_c ad cap L w hr hl)
  cases hB : planeB L
  case false =>
    rw [hB] at CI
    have HQ := Lib.hid (fun w' (h : Below w.heap.size w w') => PtsO.no (H := hulA L) h)
    generalize PtsO false (hulA L) w = Q at HQ ⊢
    generalize L.length = n at CI ⊢
    clear hr hB hl
    go_enter Tryz.func11, Tryz.ntmps11
    go_wp2_with fail
    refine CI.out.mono ?_
    rintro e w1 ⟨rfl, hb1⟩
    go_wp2_with fail
    exact HQ.out _ hb1
  case true =>
    rw [hB] at CI
    obtain ⟨h0, h12, hp⟩ := planeB_t hB
    have CP := Lib.hid (fun u (h : Below w.heap.size w u) => plPoints_c ad cap L u (hr.below h) h12)
    have CH := Lib.hid (fun u a c (h : RdP u a (ptsL L L.length)) => show Calls Tryz.prog 34 #[.slice a L.length c] u (HullTo u (hulA L)) from by
      have := pyHull_c a c (ptsL L L.length) u h (by rw [ptsL_len]; omega) (ptsL_sh hp)
      rw [ptsL_len] at this
      exact this)
    have HY := Lib.hid (fun w2 a c (h1 : RdP w2 a (hulA L)) (h : Below w.heap.size w w2) => PtsO.yes (c := c) h1 h)
    have HLP := Lib.hid (ptsL_len L L.length)
    generalize PtsO true (hulA L) w = Q at HY ⊢
    obtain ⟨n, hn⟩ : ∃ n, L.length = n := ⟨_, rfl⟩
    rw [hn] at CI CP CH HLP ⊢
    generalize ptsL L n = PL at CP CH HLP
    unfold HullTo at CH
    clear hr hB hl hn h0 h12 hp
    go_enter Tryz.func11, Tryz.ntmps11
    go_wp2_with fail
    refine CI.out.mono ?_
    rintro e w1 ⟨rfl, hb1⟩
    have CP1 := Lib.hid (CP.out w1 hb1)
    go_wp2_with fail
    refine CP1.out.mono ?_
    rintro e w2 ⟨v2, rfl, hrow, hb2⟩
    have hrd := hrow.rd_any
    obtain ⟨a2, c2, rfl, hrd⟩ := hrd
    rw [HLP.out]
    have CH1 := Lib.hid (CH.out w2 a2 c2 hrd)
    have HB2 := Lib.hid (ball hb1 hb2)
    clear hrow hrd hb1 hb2 CP CP1 CI
    go_wp2_with fail
    refine CH1.out.mono ?_
    rintro e w3 ⟨a3, c3, rfl, hr3, hb3⟩
    have HF := Lib.hid (HY.out w3 a3 c3 hr3 (ball HB2.out hb3))
    clear hr3 hb3
    go_wp2_with fail
    exact HF.out
end Go.Proofs.YtcionneopgdebaaGreat

/-
  CellPolygon: the program's and the reference's. By an AI agent.
-/
namespace Go.Proofs.YtcionneopgdebaaGreat
open Go.RowKit

def cpB (L : List Tm) (i : Int) : Bool := planeB L && inB i 0 ((celA L).length - 1)
def cpH (L : List Tm) (i : Int) : List Pt := hulX L ((celA L).getD i.toNat [])
theorem cel_mem {L : List Tm} {k : Nat} (hk : k < (celA L).length) : (celA L).getD k [] ∈ celA L := by rw [List.getD_eq_getElem?_getD, List.getElem?_eq_getElem hk]; exact List.getElem_mem _

set_option maxHeartbeats 1600000 in
theorem iCellPolygon_c (ad : Option Addr) (cap : Nat) (L : List Tm) (i : Int) (w : World) (hr : RdT w ad L) (hl : L.length ≤ 1048576) :
    Calls Tryz.prog 21 #[.slice ad L.length cap, .int .i64 i] w (PtsO (cpB L i) (cpH L i) w) := by
  have CI := Lib.hid (subdivided_c ad cap L w hr hl)
  have HQ := Lib.hid (fun w' (h : Below w.heap.size w w') => PtsO.no (H := cpH L i) h)
  have HY := Lib.hid (fun w2 a c (h1 : RdP w2 a (cpH L i)) (h : Below w.heap.size w w2) => PtsO.yes (c := c) h1 h)
  cases hB : planeB L
  case false =>
    rw [hB] at CI
    have hc : cpB L i = false := by unfold cpB; rw [hB]; rfl
    rw [hc]
    generalize PtsO false (cpH L i) w = Q at HQ ⊢
    generalize L.length = n at CI ⊢
    clear hr hB hl hc HY
    go_enter Tryz.func21, Tryz.ntmps21
    go_wp2_with fail
    refine CI.out.mono ?_
    rintro e w1 ⟨hb1, he⟩
    rw [if_neg (by simp)] at he
    subst he
    go_wp2_with fail
    exact HQ.out _ hb1
  case true =>
    rw [hB] at CI
    obtain ⟨h0, h12, hp⟩ := planeB_t hB
    have hcl := celA_len L h12
    have HS := Lib.hid (fun w' S d (h : SubM w' S L (.slice ad L.length cap) d) => show S < w'.heap.size ∧ w'.cell? ⟨S, 2, none⟩ = some (.slice d.adC (celA L).length d.capC) from ⟨h.own.lt, h.own.cell? (i := 2) rfl⟩)
    have hcb : cpB L i = inB i 0 ((celA L).length - 1) := by unfold cpB; rw [hB, Bool.true_and]
    rw [hcb]
    have CW := Lib.hid (fun w => within_any i 0 ((celA L).length - 1) w)
    have HPO := Lib.hid (fun w' S d (h : SubM w' S L (.slice ad L.length cap) d) k (hk : k < (celA L).length) => show ∃ b o a c, d.adC = some ⟨b, o, none⟩ ∧ b < w'.heap.size ∧ w'.cell? ⟨b, o + k, none⟩ = some (.slice a ((celA L).getD k []).length c) ∧ Calls Tryz.prog 41 #[.pointer (some ⟨S, 0, none⟩), .slice a ((celA L).getD k []).length c] w' (HullTo w' (hulX L ((celA L).getD k []))) from by
      obtain ⟨b, o, a, c, e, hb, hc, hx⟩ := h.cells.rd k hk
      exact ⟨b, o, a, c, e, hb, hc, h.polygon hp h12 hx (cel_mem hk)⟩)
    have HCH := Lib.hid (fun (k : Nat) (h : i = (k : Int)) => show hulX L ((celA L).getD k []) = cpH L i from by unfold cpH; rw [h]; rfl)
    have hit : inB i 0 ((celA L).length - 1) = true → 0 ≤ i ∧ i ≤ (celA L).length - 1 := fun h => inB_t.1 h
    generalize inB i 0 ((celA L).length - 1) = u at CW hit ⊢
    generalize celA L = C at HS CW HPO HCH hit hcl
    obtain ⟨nC, hnC⟩ : ∃ z, C.length = z := ⟨_, rfl⟩
    rw [hnC] at HS CW HPO hit hcl
    have ws : IntKind.i64.wrap ((nC : Int) - 1) = (nC : Int) - 1 := i64_small (by omega) (by omega)
    obtain ⟨n, hn⟩ : ∃ n, L.length = n := ⟨_, rfl⟩
    rw [hn] at CI HS HPO ⊢
    clear hr hB hl hn h0 h12 hp hcb hnC
    cases u
    case false =>
      generalize PtsO false (cpH L i) w = Q at HQ ⊢
      clear HY hit HPO HCH
      go_enter Tryz.func21, Tryz.ntmps21
      go_wp2_with fail
      refine CI.out.mono ?_
      rintro e w1 ⟨hb1, he⟩
      rw [if_pos rfl] at he
      obtain ⟨S, d, rfl, hsm⟩ := he
      obtain ⟨hS, k2⟩ := HS.out w1 S d hsm
      clear hsm CI HS
      go_wp2_with fail
      refine (CW.out _).mono ?_
      rintro e w2 ⟨rfl, rfl⟩
      go_wp2_with fail
      exact HQ.out _ hb1
    case true =>
      obtain ⟨i0, i1⟩ := hit rfl
      obtain ⟨k, rfl⟩ : ∃ k : Nat, i = k := ⟨i.toNat, by omega⟩
      have hk : k < nC := by omega
      have hch := HCH.out k rfl
      have HPO := Lib.hid (fun w' S d h => HPO.out w' S d h k hk)
      generalize C.getD k [] = X at HPO hch
      rw [hch] at HPO
      generalize cpH L (k : Int) = H at HY HPO
      generalize X.length = nX at HPO
      generalize PtsO true H w = Q at HY ⊢
      have x1 : (0 : Int) ≤ (k : Int) := by omega
      have x2 : (k : Int) < (nC : Int) := by omega
      unfold HullTo at HPO
      clear HQ hit HCH hch i0 i1
      go_enter Tryz.func21, Tryz.ntmps21
      go_wp2_with fail
      refine CI.out.mono ?_
      rintro e w1 ⟨hb1, he⟩
      rw [if_pos rfl] at he
      obtain ⟨S, d, rfl, hsm⟩ := he
      obtain ⟨hS, k2⟩ := HS.out w1 S d hsm
      obtain ⟨b, o, a, c, hade, hb, kc, hcp⟩ := HPO.out w1 S d hsm
      rw [hade] at k2
      have CP := Lib.hid hcp
      clear hsm CI HS HPO hade hcp
      go_wp2_with fail
      refine (CW.out _).mono ?_
      rintro e w2 ⟨rfl, rfl⟩
      go_wp2_with fail
      refine CP.out.mono ?_
      rintro e w3 ⟨a3, c3, rfl, hr3, hb3⟩
      have HF := Lib.hid (HY.out w3 a3 c3 hr3 (ball hb1 hb3))
      clear hr3 hb3 CP
      go_wp2_with fail
      exact HF.out

set_option maxHeartbeats 1600000 in
theorem sCellPolygon_c (ad : Option Addr) (cap : Nat) (L : List Tm) (i : Int) (w : World) (hr : RdT w ad L) (hl : L.length ≤ 1048576) :
    Calls Tryz.prog 22 #[.slice ad L.length cap, .int .i64 i] w (PtsO (cpB L i) (cpH L i) w) := by
  have CI := Lib.hid (plGood_c ad cap L w hr hl)
  have HQ := Lib.hid (fun w' (h : Below w.heap.size w w') => PtsO.no (H := cpH L i) h)
  have HY := Lib.hid (fun w2 a c (h1 : RdP w2 a (cpH L i)) (h : Below w.heap.size w w2) => PtsO.yes (c := c) h1 h)
  cases hB : planeB L
  case false =>
    rw [hB] at CI
    have hc : cpB L i = false := by unfold cpB; rw [hB]; rfl
    rw [hc]
    generalize PtsO false (cpH L i) w = Q at HQ ⊢
    generalize L.length = n at CI ⊢
    clear hr hB hl hc HY
    go_enter Tryz.func22, Tryz.ntmps22
    go_wp2_with fail
    refine CI.out.mono ?_
    rintro e w1 ⟨rfl, hb1⟩
    go_wp2_with fail
    exact HQ.out _ hb1
  case true =>
    rw [hB] at CI
    obtain ⟨h0, h12, hp⟩ := planeB_t hB
    obtain ⟨bl, ol, rfl, _⟩ := hr 0 h0
    have hcl := celA_len L h12
    have CO := Lib.hid (fun u (h : Below w.heap.size w u) => ceOf_c bl ol cap L u (hr.below h) hp h12 h0)
    have hcb : cpB L i = inB i 0 ((celA L).length - 1) := by unfold cpB; rw [hB, Bool.true_and]
    rw [hcb]
    have CW := Lib.hid (fun w => l1In_any i 0 ((celA L).length - 1) w)
    have HPO := Lib.hid (fun u (h : Below w.heap.size w u) k (hk : k < (celA L).length) a c (hx : RdI u a ((celA L).getD k [])) => show Calls Tryz.prog 30 #[.slice (some ⟨bl, ol, none⟩) L.length cap, .slice a ((celA L).getD k []).length c] u (HullTo u (hulX L ((celA L).getD k []))) from by
      obtain ⟨_, h2, h3⟩ := celA_in (cel_mem hk)
      exact cePolygon_c bl ol cap L a c ((celA L).getD k []) u (hr.below h) hp hx (by omega) h3)
    have HCH := Lib.hid (fun (k : Nat) (h : i = (k : Int)) => show hulX L ((celA L).getD k []) = cpH L i from by unfold cpH; rw [h]; rfl)
    have hit : inB i 0 ((celA L).length - 1) = true → 0 ≤ i ∧ i ≤ (celA L).length - 1 := fun h => inB_t.1 h
    generalize inB i 0 ((celA L).length - 1) = u at CW hit ⊢
    generalize celA L = C at CO CW HPO HCH hit hcl
    obtain ⟨nC, hnC⟩ : ∃ z, C.length = z := ⟨_, rfl⟩
    unfold PutR at CO
    rw [hnC] at CO CW HPO hit hcl
    have HNC := Lib.hid hnC
    have ws : IntKind.i64.wrap ((nC : Int) - 1) = (nC : Int) - 1 := i64_small (by omega) (by omega)
    obtain ⟨n, hn⟩ : ∃ n, L.length = n := ⟨_, rfl⟩
    rw [hn] at CI CO HPO ⊢
    clear hr hB hl hn h0 h12 hp hcb hnC
    cases u
    case false =>
      generalize PtsO false (cpH L i) w = Q at HQ ⊢
      clear HY hit HPO HCH
      go_enter Tryz.func22, Tryz.ntmps22
      go_wp2_with fail
      refine CI.out.mono ?_
      rintro e w1 ⟨rfl, hb1⟩
      have CO1 := Lib.hid (CO.out w1 hb1)
      go_wp2_with fail
      refine CO1.out.mono ?_
      rintro e w2 ⟨adC, capC, vs, rfl, hm, hb2⟩
      have HB2 := Lib.hid (ball hb1 hb2)
      clear hm hb1 hb2 CO1 CO CI
      go_wp2_with fail
      refine (CW.out _).mono ?_
      rintro e w3 ⟨rfl, rfl⟩
      go_wp2_with fail
      exact HQ.out _ HB2.out
    case true =>
      obtain ⟨i0, i1⟩ := hit rfl
      obtain ⟨k, rfl⟩ : ∃ k : Nat, i = k := ⟨i.toNat, by omega⟩
      have hk : k < nC := by omega
      have hch := HCH.out k rfl
      have HPO := Lib.hid (fun u h => HPO.out u h k hk)
      have HRX := Lib.hid (fun u a (h : RdM u a C) => h k (by rw [HNC.out]; exact hk))
      generalize C.getD k [] = X at HPO hch HRX
      rw [hch] at HPO
      generalize cpH L (k : Int) = H at HY HPO
      generalize X.length = nX at HPO HRX
      generalize PtsO true H w = Q at HY ⊢
      have x1 : (0 : Int) ≤ (k : Int) := by omega
      have x2 : (k : Int) < (nC : Int) := by omega
      unfold HullTo at HPO
      clear HQ hit HCH hch i0 i1
      go_enter Tryz.func22, Tryz.ntmps22
      go_wp2_with fail
      refine CI.out.mono ?_
      rintro e w1 ⟨rfl, hb1⟩
      have CO1 := Lib.hid (CO.out w1 hb1)
      go_wp2_with fail
      refine CO1.out.mono ?_
      rintro e w2 ⟨adC, capC, vs, rfl, hm, hb2⟩
      have hb2 := ball hb1 hb2
      clear hm CO1
      go_wp2_with fail
      refine (CW.out _).mono ?_
      rintro e w3 ⟨rfl, rfl⟩
      have CO2 := Lib.hid (CO.out w2 hb2)
      go_wp2_with fail
      refine CO2.out.mono ?_
      rintro e w4 ⟨adD, capD, vs4, rfl, hm4, hb4⟩
      have hb4 := ball hb2 hb4
      obtain ⟨b, o, a, c, rfl, hb, kc, hx⟩ := HRX.out w4 adD hm4.rd
      have CP := Lib.hid (HPO.out w4 hb4 a c hx)
      have HB4 := Lib.hid hb4
      clear hm4 hx hb4 hb2 hb1 CO CO2 HPO HRX
      go_wp2_with fail
      refine CP.out.mono ?_
      rintro e w5 ⟨a5, c5, rfl, hr5, hb5⟩
      have HF := Lib.hid (HY.out w5 a5 c5 hr5 (ball HB4.out hb5))
      clear hr5 hb5 CP
      go_wp2_with fail
      exact HF.out
end Go.Proofs.YtcionneopgdebaaGreat
