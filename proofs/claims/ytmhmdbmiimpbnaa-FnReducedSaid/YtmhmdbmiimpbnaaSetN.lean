/-
  The program's closure that lays all legal sets behind one another.
-/
import Derived.Test.YtmhmdbmiimpbnaaSetI
namespace Go.Proofs.Ytmhmdbmiimpbnaa
open Go.RowKit

set_option maxHeartbeats 800000 in
theorem cloneR_any (v : Value) (s : List Int) (w : World) (hl : s.length ≤ 1048576) (h : SetV w v s) :
    Calls Try.prog 101 #[v] w fun e w' => ∃ u, e = .returned u ∧ w'.ownsRow w.heap.size 3 1 u s.length (ints s) ∧ Below w.heap.size w w' := by
  obtain ⟨i0, hi0, hz0, hz1, hz2⟩ := info_parts Try.infoI
  have hnl := fun (w : World) (a : Option Addr) (l c : Nat) => Lib.run_eql_slice_nil (P := Try.prog) w 30 3 a l c 0 0 Try.underlying30
  have hb0 : Below w.heap.size w (w.alloc (.cells #[] 3)) := (Below.refl _ _).alloc (Nat.le_refl _) _
  have HO := Lib.hid (row_empty w 3)
  rcases h with ⟨rfl, rfl⟩ | ⟨a, cap, rfl, hr⟩
  · go_enter Try.func101, Try.ntmps101
    go_wp2_with fail
    go_ret
    exact ⟨_, rfl, ⟨rfl, Or.inl ⟨rfl, rfl⟩⟩, Below.refl _ _⟩
  · have hr1 := hr.below hb0
    have HN := Lib.hid hr1.news
    clear hr hr1
    go_enter Try.func101, Try.ntmps101
    go_wp2_with (at_builtin; refine wpList_append_own _ rfl _ _ 30 rfl w.heap.size 3 i0 _ 1 8 Try.underlying30 hi0 hz0 hz1 hz2 rfl (by decide) (.slice (some ⟨w.heap.size, 0, none⟩) 0 0) 0 [] rfl HO.out a s.length cap (ints s) rfl (by rw [ints_length]; omega) HN.out (ints_oneCell s) (by unfold maxLen; omega) (by omega) (by simp) ?_; intro v' w2 hown hgrow hnil)
    clear hnil
    go_ret
    exact ⟨_, rfl, row_congr hown (by omega) rfl, hb0.grown hgrow (by simp) (fun q e => by simp [Value.ownBlock] at e; omega)⟩

/-- Every block of numbers stays. -/
def KI (w w' : World) : Prop := ∀ g cs, Own w g 3 cs → Own w' g 3 cs
theorem KI.refl (w : World) : KI w w := fun _ _ h => h
theorem KI.trans {a b c : World} (h : KI a b) (h' : KI b c) : KI a c := fun g cs k => h' g cs (h g cs k)
theorem KI.below {w w' : World} (hb : Below w.heap.size w w') : KI w w' := fun _ _ h => h.belowAll hb
theorem KI.grown {w w' : World} {B n : Nat} {u : Value} {vs : List Value} (hu : w.ownsRow B 30 1 u n vs) (hg : w.grownBy w' u.ownBlock) : KI w w' := fun g _ h => h.grown hg (ownsRow_ne hu h (by decide))
/-- A set as an own block, or nil. -/
def SetO (w : World) (v : Value) (s : List Int) : Prop := (v = .slice none 0 0 ∧ s = []) ∨ ∃ g cap, v = .slice (some ⟨g, 0, none⟩) s.length cap ∧ Own w g 3 (ints s)
theorem SetO.setV {w : World} {v : Value} {s : List Int} (h : SetO w v s) : SetV w v s := by
  rcases h with h | ⟨g, cap, e, h⟩
  · exact Or.inl h
  · exact Or.inr ⟨⟨g, 0, none⟩, cap, e, h.rd⟩
theorem SetO.keep {w w' : World} {v : Value} {s : List Int} (h : SetO w v s) (k : KI w w') : SetO w' v s := by
  rcases h with h | ⟨g, cap, e, h⟩
  · exact Or.inl h
  · exact Or.inr ⟨g, cap, e, k g _ h⟩
theorem ORow.grown {w w' : World} {B : Nat} {v : Value} {rows : List (List Int)} {vs : List Value} {g : Nat} {E : TypeId} {cs : List Value} (h : ORow w B v rows vs) (hg : w.grownBy w' (some g)) (ho : Own w g E cs) (h1 : E ≠ 3) (h2 : 30 ≠ E) : ORow w' B v rows vs :=
  ⟨h.row.kept hg (Or.inr (ownsRow_ne h.row ho h2)), h.len, fun i hi => (h.each i hi).grown hg fun q hq e => by
    rcases h.each i hi with ⟨e1, _⟩ | ⟨g', cap, e1, _, ho'⟩
    · rw [e1] at hq; simp [Value.ownBlock] at hq
    · rw [e1] at hq
      simp only [Value.ownBlock, Option.some.injEq] at hq e
      subst hq; subst e
      exact ho.ne_of_type ho' h1 rfl, h.apart⟩

/-- The closure's memory: the box of the list, the box of the closure itself, the list. -/
structure NxS (B : Nat) (w : World) (Bo Bf : Nat) (F : Value) (rows : List (List Int)) (vo : Value) (vs : List Value) : Prop where
  co : Own w Bo 27 [vo]
  cf : Own w Bf 98 [F]
  out : ORow w B vo rows vs
theorem NxS.below {B : Nat} {w w' : World} {Bo Bf : Nat} {F : Value} {rows : List (List Int)} {vo : Value} {vs : List Value} (h : NxS B w Bo Bf F rows vo vs) (hb : Below w.heap.size w w') : NxS B w' Bo Bf F rows vo vs := ⟨h.co.belowAll hb, h.cf.belowAll hb, h.out.below hb⟩

set_option maxHeartbeats 6400000 in
set_option maxRecDepth 100000 in
theorem next_any (W1 : World) (Bn Bq Bg Bd Bo Bf G gb gv capb : Nat) (rb : Nat → Nat) (N q : Nat) (ls : List Lk) (ad : Addr) (cap : Nat) (d : List Int)
    (hG : GrAt W1 G gb gv capb rb N (betF ls) (valF ls) (edgeF ls)) (hgr : Gr N (betF ls) (valF ls)) (hN : N ≤ 8) (hdl : d.length = N) (hr : RdI W1 (some ad) d) (hnd : ∀ v, v < N → v ≠ q → 0 ≤ fd d v)
    (cn : Own W1 Bn 3 [.int .i64 N]) (cq : Own W1 Bq 3 [.int .i64 q]) (cg : Own W1 Bg 59 [.pointer (some ⟨G, 0, none⟩)]) (cd : Own W1 Bd 30 [.slice (some ad) N cap]) (hBo : W1.heap.size ≤ Bo) :
    ∀ (k v : Nat) (s : List Int) (sv : Value) (w : World) (rows : List (List Int)) (vo : Value) (vs : List Value), v + k = N → s.length ≤ v → Ris 0 v s → (∀ y ∈ s, y ≠ (q : Int)) → SetO w sv s →
      NxS W1.heap.size w Bo Bf (.func (Fn.func 100) #[] #[.pointer (some ⟨Bn, 0, none⟩), .pointer (some ⟨Bq, 0, none⟩), .pointer (some ⟨Bg, 0, none⟩), .pointer (some ⟨Bd, 0, none⟩), .pointer (some ⟨Bo, 0, none⟩), .pointer (some ⟨Bf, 0, none⟩)]) rows vo vs →
      Below W1.heap.size W1 w → rows.length + (sets q k v s).length ≤ 255 →
      Calls Try.prog 100 #[sv, .int .i64 v, .pointer (some ⟨Bn, 0, none⟩), .pointer (some ⟨Bq, 0, none⟩), .pointer (some ⟨Bg, 0, none⟩), .pointer (some ⟨Bd, 0, none⟩), .pointer (some ⟨Bo, 0, none⟩), .pointer (some ⟨Bf, 0, none⟩)] w fun e w' =>
        e = .returned (.tuple #[]) ∧ (∃ vo' vs', NxS W1.heap.size w' Bo Bf (.func (Fn.func 100) #[] #[.pointer (some ⟨Bn, 0, none⟩), .pointer (some ⟨Bq, 0, none⟩), .pointer (some ⟨Bg, 0, none⟩), .pointer (some ⟨Bd, 0, none⟩), .pointer (some ⟨Bo, 0, none⟩), .pointer (some ⟨Bf, 0, none⟩)]) (rows ++ (sets q k v s).filter (lglB N (betF ls) (fd d))) vo' vs') ∧ Below W1.heap.size W1 w' ∧ KI w w' := by
  have hcf := fun (xa : Array Value) (w : World) => callFunc_plain (P := Try.prog) Try.func100 (by kernel_rfl) (by kernel_rfl) xa w
  generalize hF : Value.func (Fn.func 100) #[] #[.pointer (some ⟨Bn, 0, none⟩), .pointer (some ⟨Bq, 0, none⟩), .pointer (some ⟨Bg, 0, none⟩), .pointer (some ⟨Bd, 0, none⟩), .pointer (some ⟨Bo, 0, none⟩), .pointer (some ⟨Bf, 0, none⟩)] = F
  intro k
  induction k using Nat.strongRecOn with
  | _ k ih =>
  intro v s sv w rows vo vs hvk hsl hris hsq hset hst hbw htot
  obtain ⟨i0, hi0, hz0, hz1, hz2⟩ := info_parts Try.infoI
  obtain ⟨i1, hi1, hy0, hy1, hy2⟩ := info_parts Try.infoII
  have HS := Lib.hid hset; clear hset
  have HRIS := Lib.hid hris; clear hris
  have HSQ := Lib.hid hsq; clear hsq
  have HST := Lib.hid hst; clear hst
  have HIH := Lib.hid ih; clear ih
  have HG := Lib.hid hG
  have HR := Lib.hid hr
  have HND := Lib.hid hnd
  have HGR := Lib.hid hgr
  have HDL := Lib.hid hdl
  have HF := Lib.hid hF
  clear hG hr hnd hgr hdl hF
  go_enter Try.func100, Try.ntmps100
  go_wp2_with fail
  go_loopw [10] (fun i wr => ∃ x : Nat, v ≤ x ∧ x ≤ N ∧ i = .int .i64 x ∧ ∃ (done : List (List Int)) (vo' : Value) (vs' : List Value), NxS W1.heap.size wr Bo Bf F (rows ++ done.filter (lglB N (betF ls) (fd d))) vo' vs' ∧ done ++ sets q (N - x) x s = sets q k v s ∧ Below W1.heap.size W1 wr ∧ KI w wr) (fun i _ => N - (intOf i).toNat)
  case atStart => exact ⟨v, Nat.le_refl _, by omega, rfl, [], vo, vs, by simpa using HST.out, by rw [show N - v = k by omega]; rfl, hbw, KI.refl _⟩
  case round =>
    obtain ⟨x, hvx, hx, rfl, done, vo', vs', hS, heq, hbel, hki⟩ := hrel
    have kn := (cn.belowAll hbel).cell? (i := 0) rfl
    have kq := (cq.belowAll hbel).cell? (i := 0) rfl
    have HS2 := Lib.hid hS; clear hS
    have HEQ := Lib.hid heq; clear heq
    have HKI := Lib.hid hki; clear hki
    obtain ⟨wo, rfl⟩ : ∃ wo : World, wo = wr := ⟨_, rfl⟩
    have hrl : rows.length + (done.filter (lglB N (betF ls) (fd d))).length ≤ 255 := by
      have h1 := congrArg List.length HEQ.out
      rw [List.length_append] at h1
      have := List.length_filter_le (lglB N (betF ls) (fd d)) done
      omega
    by_cases hlt : x < N
    case neg =>
      have he : x = N := by omega
      subst he
      have hdone := Lib.hid (show done = sets q k v s by have h2 := HEQ.out; rw [Nat.sub_self] at h2; simpa [sets] using h2)
      go_wp2_with fail
      go_end0
      exact ⟨rfl, ⟨vo', vs', by rw [← hdone.out]; exact HS2.out⟩, hbel, HKI.out⟩
    case pos =>
      have hNx : N - x = (N - (x + 1)) + 1 := by omega
      by_cases hxq : x = q
      case pos =>
        have hd1 : ((x : Int) == (q : Int)) = true := by simp [hxq]
        have hst := Lib.hid (show done ++ sets q (N - (x + 1)) (x + 1) s = sets q k v s by rw [← HEQ.out, hNx, sets_skip hxq])
        clear hxq
        go_wp2_with fail
        go_roundw
        case rel => exact ⟨x + 1, by omega, by omega, by go_num, done, vo', vs', HS2.out, hst.out, hbel, HKI.out⟩
        case measure => simp [intOf]; omega
      case neg =>
        have hd1 : ((x : Int) == (q : Int)) = false := by simpa using fun q => hxq (by omega)
        have HXQ := Lib.hid hxq
        have hst := Lib.hid (show (done ++ [s ++ [(x : Int)]] ++ sets q (N - (x + 1)) (x + 1) (s ++ [(x : Int)])) ++ sets q (N - (x + 1)) (x + 1) s = sets q k v s by rw [← HEQ.out, hNx, sets_take hxq]; simp)
        clear hxq
        have HRN := Lib.hid (show Ris 0 ((x + 1 : Nat) : Int) (s ++ [(x : Int)]) by have := ris_snoc (ris_up HRIS.out (show (v : Int) ≤ x by omega)) (Int.le_refl (x : Int)); simpa using this)
        have HQN := Lib.hid (show ∀ y ∈ s ++ [(x : Int)], y ≠ (q : Int) from fun y hy => by
          rcases List.mem_append.1 hy with h | h
          · exact HSQ.out y h
          · have e : y = (x : Int) := by simpa using h
            have := HXQ.out
            omega)
        have kg := (cg.belowAll hbel).cell? (i := 0) rfl
        have kd := (cd.belowAll hbel).cell? (i := 0) rfl
        have hcl := cloneR_any sv s wo (by omega) (HS.out.keep HKI.out).setV
        have HCL := Lib.hid hcl; clear hcl
        have hszo := hbel.size
        go_wp2_with fail
        refine HCL.out.mono ?_
        rintro e w2 ⟨u, rfl, hu, hb2⟩
        have HU := Lib.hid hu; clear hu
        clear kn kq kg kd
        go_wp2_with (at_builtin; refine wpList_append_lies _ rfl _ _ 30 rfl wo.heap.size 3 i0 _ 1 8 Try.underlying30 hi0 hz0 hz1 hz2 rfl (by omega) u s.length _ rfl (HU.out.alloc _) ⟨w2.heap.size, 0, none⟩ 1 1 [.int .i64 (x : Int)] rfl rfl (World.news_of_block (cs := #[.int .i64 (x : Int)]) (t := 3) (fr := (0, 0)) (heap_alloc_new _ _)) (by simp [Value.oneCell']) (by omega) (by unfold maxLen; omega) (by omega) (by have := hb2.size; simp; omega) (w2.heap.size + 1) (by simp) ?_; intro gg gcap w3 hown3 hgrow3 hat3 hlt3; have hb13 := app_below hb2 hb2.size HU.out hgrow3; clear hat3 hgrow3; have hsz3 := hb13.size; have HR3 := Lib.hid (ResI.of_row (row_congr (ys := ints (s ++ [(x : Int)])) hown3 rfl (by simp [ints]))); clear hown3; have hbw3 : Below W1.heap.size W1 w3 := ball hbel hb13; have kg := (cg.belowAll hbw3).cell? (i := 0) rfl; have kd := (cd.belowAll hbw3).cell? (i := 0) rfl)
        have hl1 : (s ++ [(x : Int)]).length = s.length + 1 := by simp
        have hso3 : SetO w3 (.slice (some ⟨gg, 0, none⟩) (s.length + 1) gcap) (s ++ [(x : Int)]) := by
          rcases HR3.out with ⟨e, _⟩ | ⟨g', cap', e, _, ho⟩
          · simp at e
          · simp only [Value.slice.injEq, Option.some.injEq, Addr.mk.injEq, and_true] at e
            obtain ⟨rfl, _, rfl⟩ := e
            exact Or.inr ⟨gg, gcap, by rw [hl1], ho⟩
        have hrd3 : RdI w3 (some ⟨gg, 0, none⟩) (s ++ [(x : Int)]) := by
          rcases hso3 with ⟨e, _⟩ | ⟨g', cap', e, ho⟩
          · simp at e
          · simp only [Value.slice.injEq, Option.some.injEq, Addr.mk.injEq, and_true] at e
            obtain ⟨rfl, _, rfl⟩ := e
            exact ho.rd
        have hleg := isLegal_any G gb gv capb rb N ls ad cap gg gcap d (s ++ [(x : Int)]) w3 (HG.out.below hbw3) HGR.out hN HDL.out (HR.out.below hbw3) (by rw [hl1]; omega) hrd3 (fun j hj => by
          have := HRN.out.bound _ (show (s ++ [(x : Int)]).getD j 0 ∈ s ++ [(x : Int)] by rw [List.getD_eq_getElem?_getD, List.getElem?_eq_getElem hj]; exact List.getElem_mem hj)
          omega) (fun v hv hm => HND.out v hv (fun e => HQN.out _ hm (by omega)))
        rw [hl1] at hleg
        obtain ⟨lb, hlb⟩ : ∃ lb, lglB N (betF ls) (fd d) (s ++ [(x : Int)]) = lb := ⟨_, rfl⟩
        rw [hlb] at hleg
        have HLEG := Lib.hid hleg; clear hleg hrd3
        have HSO3 := Lib.hid hso3; clear hso3
        have HLB := Lib.hid hlb; clear hlb
        have HKI3 := Lib.hid (HKI.out.trans (KI.below hb13))
        have hlen2 : rows.length + (done.filter (lglB N (betF ls) (fd d))).length + 1 + (sets q (N - (x + 1)) (x + 1) (s ++ [(x : Int)])).length ≤ 255 := by
          have h1 := congrArg List.length hst.out
          rw [List.length_append, List.length_append, List.length_append, List.length_singleton] at h1
          have := List.length_filter_le (lglB N (betF ls) (fd d)) done
          omega
        go_wp2_with fail
        refine HLEG.out.mono ?_
        rintro e w4 ⟨rfl, hb4⟩
        clear kg kd
        have hb14 : Below wo.heap.size wo w4 := ball hb13 hb4
        have hbw4 := ball hbw3 hb4
        have HKI4 := Lib.hid (HKI3.out.trans (KI.below hb4))
        have HSO4 := Lib.hid (HSO3.out.keep (KI.below hb4))
        have HS4 := Lib.hid (HS2.out.below hb14)
        have hF2 := HF.out
        cases lb
        case false =>
          have hih := HIH.out (N - (x + 1)) (by omega) (x + 1) (s ++ [(x : Int)]) _ w4 _ _ _ (by omega) (by rw [hl1]; omega) HRN.out HQN.out HSO4.out HS4.out hbw4 (by rw [List.length_append]; omega)
          rw [show (((x + 1 : Nat)) : Int) = (x : Int) + 1 by omega] at hih
          have HCALL := Lib.hid hih; clear hih
          have kf := HS4.out.cf.cell? (i := 0) rfl
          rw [← hF2] at kf
          clear hF2
          go_wp2_with fail
          refine HCALL.out.mono ?_
          rintro e w5 ⟨rfl, ⟨vo5, vs5, h5⟩, hb5, hk5⟩
          have HS5 := Lib.hid h5; clear h5 kf
          have HK5 := Lib.hid (HKI4.out.trans hk5); clear hk5
          go_wp2_with fail
          go_roundw
          case rel =>
            refine ⟨x + 1, by omega, by omega, by go_num, done ++ [s ++ [(x : Int)]] ++ sets q (N - (x + 1)) (x + 1) (s ++ [(x : Int)]), vo5, vs5, ?_, hst.out, hb5, HK5.out⟩
            have h6 := HS5.out
            rw [List.filter_append, List.filter_append, List.filter_cons, if_neg (by rw [HLB.out]; simp)]
            simpa using h6
          case measure => simp [intOf]; omega
        case true =>
          have ko := HS4.out.co.cell? (i := 0) rfl
          have hsz4 := hb14.size
          have hszw := hbw4.size
          have hr4 : ResI w4 W1.heap.size 3 (.slice (some ⟨gg, 0, none⟩) (s.length + 1) gcap) (s ++ [(x : Int)]) := (HR3.out.below hb4).mono hszo
          have HR4 := Lib.hid hr4; clear hr4
          generalize hrk : rows ++ done.filter (lglB N (betF ls) (fd d)) = rk at HS4 HS2
          have hrkl : rk.length ≤ 254 := by rw [← hrk, List.length_append]; omega
          have HRK := Lib.hid hrk; clear hrk
          go_wp2_with (at_builtin; refine wpList_append_lies _ rfl _ _ 27 rfl W1.heap.size 30 i1 _ 1 24 Try.underlying27 hi1 hy0 hy1 hy2 rfl (by omega) vo' rk.length vs' rfl (HS4.out.out.row.alloc _) ⟨w4.heap.size, 0, none⟩ 1 1 [.slice (some ⟨gg, 0, none⟩) (s.length + 1) gcap] rfl rfl (World.news_of_block (cs := #[.slice (some ⟨gg, 0, none⟩) (s.length + 1) gcap]) (t := 30) (fr := (0, 0)) (heap_alloc_new _ _)) (by simp [Value.oneCell']) (by omega) (by unfold maxLen; omega) (by omega) (by simp; omega) (w4.heap.size + 1) (by simp) ?_; intro g5 cap5 w5 hown5 hgrow5 hat5 hlt5; clear hat5; have hbA := (Below.refl w4.heap.size w4).alloc (Nat.le_refl _) (.cells #[.slice (some ⟨gg, 0, none⟩) (s.length + 1) gcap] 30); have hco5 := (HS4.out.co.alloc (.cells #[.slice (some ⟨gg, 0, none⟩) (s.length + 1) gcap] 30)).grown hgrow5 (ownsRow_ne HS4.out.out.row HS4.out.co (by decide)); have hcf5 := (HS4.out.cf.alloc (.cells #[.slice (some ⟨gg, 0, none⟩) (s.length + 1) gcap] 30)).grown hgrow5 (ownsRow_ne HS4.out.out.row HS4.out.cf (by decide)); have fo := hco5.frozen 0; have ko5 := hco5.cell? (i := 0) rfl; have hco6 := hco5.set 0 (.slice (some ⟨g5, 0, none⟩) (rk.length + 1) cap5); have hcf6 := hcf5.setOther (a := ⟨Bo, 0, none⟩) (hcf5.ne_of_type hco5 (by decide)) (.slice (some ⟨g5, 0, none⟩) (rk.length + 1) cap5); have hnf := hcf5.ne_of_type hco5 (by decide); have kf5 := hcf5.cell? (i := 0) rfl; have kf := hcf6.cell? (i := 0) rfl; rw [← hF2] at kf kf5; clear hF2)
          clear kf kf5 fo ko5 ko
          have hrow5 : ORow w5 W1.heap.size (.slice (some ⟨g5, 0, none⟩) (rk.length + 1) cap5) (rk ++ [s ++ [(x : Int)]]) (vs' ++ [.slice (some ⟨gg, 0, none⟩) (s.length + 1) gcap]) :=
            (HS4.out.out.below hbA).app rfl (fun i hi => by
              have : i = 0 := by simpa using hi
              subst this
              exact HR4.out.below hbA) (fun i j hi hj hij => by simp at hi hj; omega) (fun i j hi hj p hp hp2 => by
              have : j = 0 := by simpa using hj
              subst this
              have h1 := (HS2.out.out.each i hi).lt hp
              have h2 := HR3.out.lt (q := p) hp2
              omega) hown5 hgrow5
          have hki5 : KI w4 w5 := (KI.below hbA).trans (KI.grown (ownsRow_bel HS4.out.out.row hbA) hgrow5)
          have hbw5 : Below W1.heap.size W1 w5 := app_below hbw4 (by omega) HS4.out.out.row hgrow5
          have hrow6 := hrow5.grown (Chg.set Bo 0 w5 (.slice (some ⟨g5, 0, none⟩) (rk.length + 1) cap5)).grownBy hco5 (by decide) (by decide)
          have hki6 : KI w5 (w5.setCell ⟨Bo, 0, none⟩ (.slice (some ⟨g5, 0, none⟩) (rk.length + 1) cap5)) := fun g _ hg => hg.setOther (a := ⟨Bo, 0, none⟩) (hg.ne_of_type hco5 (by decide)) _
          have hbw6 := hbw5.setCell (p := ⟨Bo, 0, none⟩) (by exact hBo) (.slice (some ⟨g5, 0, none⟩) (rk.length + 1) cap5)
          have HKI6 := Lib.hid ((HKI4.out.trans hki5).trans hki6)
          have HSO6 := Lib.hid (HSO4.out.keep (hki5.trans hki6))
          have HS6 := Lib.hid (⟨hco6, hcf6, hrow6⟩ : NxS W1.heap.size _ Bo Bf F _ _ _)
          have hih := HIH.out (N - (x + 1)) (by omega) (x + 1) (s ++ [(x : Int)]) _ _ _ _ _ (by omega) (by rw [hl1]; omega) HRN.out HQN.out HSO6.out HS6.out hbw6 (by have := congrArg List.length HRK.out; rw [List.length_append] at this; rw [List.length_append, List.length_singleton]; omega)
          rw [show (((x + 1 : Nat)) : Int) = (x : Int) + 1 by omega] at hih
          refine hih.mono ?_
          clear hih
          rintro e w7 ⟨rfl, ⟨vo7, vs7, h7⟩, hb7, hk7⟩
          have HS7 := Lib.hid h7; clear h7
          have HK7 := Lib.hid (HKI6.out.trans hk7); clear hk7
          go_wp2_with fail
          go_roundw
          case rel =>
            refine ⟨x + 1, by omega, by omega, by go_num, done ++ [s ++ [(x : Int)]] ++ sets q (N - (x + 1)) (x + 1) (s ++ [(x : Int)]), vo7, vs7, ?_, hst.out, hb7, HK7.out⟩
            have h6 := HS7.out
            rw [List.filter_append, List.filter_append, List.filter_cons, if_pos HLB.out, ← List.append_assoc, ← List.append_assoc, HRK.out]
            exact h6
          case measure => simp [intOf]; omega

end Go.Proofs.Ytmhmdbmiimpbnaa
