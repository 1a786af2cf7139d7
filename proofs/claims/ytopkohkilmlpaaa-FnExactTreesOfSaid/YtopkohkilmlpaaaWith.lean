/-
  The program's withPiles: a graph with a sink and piles.
-/
import Derived.Test.YtopkohkilmlpaaaStab
namespace Go.Proofs.Ytopkohkilmlpaaa
open Go.RowKit

set_option maxHeartbeats 800000 in
theorem indexFuncII_any (fid : FuncId) (c : Value) (p : Nat → Bool) (g cap : Nat) (vs : List Value) (w : World) (hl : vs.length ≤ 1048576) (ho : Own w g 23 vs)
    (hcf : ∀ (xa : Array Value) (w : World), (callFunc fid xa).run Try.prog w = .ok (.enter fid xa) w)
    (hf : ∀ i v w', vs[i]? = some v → Below w.heap.size w w' → Calls Try.prog fid #[v, c] w' fun e w'' => e = .returned (.bool (p i)) ∧ Below w'.heap.size w' w'') :
    Calls Try.prog 88 #[.slice (some ⟨g, 0, none⟩) vs.length cap, .func (Fn.func fid) #[] #[c]] w fun e w' => (∃ r : Int, e = .returned (.int .i64 r) ∧ ((0 ≤ r ∧ (List.range vs.length).any p = true) ∨ (r = -1 ∧ (List.range vs.length).any p = false))) ∧ Below w.heap.size w w' := by
  have HO := Lib.hid ho; clear ho
  have HF := Lib.hid hf; clear hf
  go_enter Try.func88, Try.ntmps88
  go_wp2_with fail
  go_loopw [8] (fun i wr => ∃ k : Nat, k ≤ vs.length ∧ i = .int .i64 k ∧ (∀ j, j < k → p j = false) ∧ Below w.heap.size w wr) (fun i _ => vs.length - (intOf i).toNat)
  case atStart => exact ⟨0, Nat.zero_le _, rfl, fun j hj => by omega, Below.refl _ _⟩
  case round =>
    obtain ⟨k, hk, rfl, hj, hbel⟩ := hrel
    have HJ := Lib.hid hj; clear hj
    by_cases hlt : k < vs.length
    · obtain ⟨v, hv⟩ : ∃ v, vs[k]? = some v := ⟨_, List.getElem?_eq_getElem hlt⟩
      have cv := (HO.out.belowAll hbel).cell? hv
      have HV := Lib.hid hv; clear hv
      by_cases h1 : p k = true
      · go_wp2_with fail
        refine (HF.out k v _ HV.out hbel).mono ?_
        rw [h1]
        rintro e w1 ⟨rfl, hb1⟩
        go_wp2_with fail
        go_ret
        refine ⟨⟨k, rfl, Or.inl ⟨by omega, ?_⟩⟩, ball hbel hb1⟩
        rw [List.any_eq_true]
        exact ⟨k, by simpa using hlt, h1⟩
      · have h1' := Bool.eq_false_iff.2 h1
        go_wp2_with fail
        refine (HF.out k v _ HV.out hbel).mono ?_
        rw [h1']
        rintro e w1 ⟨rfl, hb1⟩
        go_wp2_with fail
        go_roundw
        case rel =>
          refine ⟨k + 1, by omega, by go_num, fun j hj => ?_, ball hbel hb1⟩
          by_cases e : j = k
          · subst e; exact h1'
          · exact HJ.out j (by omega)
        case measure => simp [intOf]; omega
    · have he : k = vs.length := by omega
      subst he
      go_wp2_with fail
      go_ret
      refine ⟨⟨-1, rfl, Or.inr ⟨rfl, ?_⟩⟩, hbel⟩
      rw [List.any_eq_false]
      intro j hj
      have := HJ.out j (by simpa using hj)
      simp [this]

set_option maxHeartbeats 800000 in
theorem containsFuncII_any (fid : FuncId) (c : Value) (p : Nat → Bool) (g cap : Nat) (vs : List Value) (w : World) (hl : vs.length ≤ 1048576) (ho : Own w g 23 vs)
    (hcf : ∀ (xa : Array Value) (w : World), (callFunc fid xa).run Try.prog w = .ok (.enter fid xa) w)
    (hf : ∀ i v w', vs[i]? = some v → Below w.heap.size w w' → Calls Try.prog fid #[v, c] w' fun e w'' => e = .returned (.bool (p i)) ∧ Below w'.heap.size w' w'') :
    Calls Try.prog 72 #[.slice (some ⟨g, 0, none⟩) vs.length cap, .func (Fn.func fid) #[] #[c]] w fun e w' => e = .returned (.bool ((List.range vs.length).any p)) ∧ Below w.heap.size w w' := by
  go_enter Try.func72, Try.ntmps72
  go_wp2_with fail
  refine (indexFuncII_any fid c p g cap vs w hl ho hcf hf).mono ?_
  clear hf ho
  rintro e w1 ⟨⟨r, rfl, hr1⟩, hb1⟩
  have HA := Lib.hid hr1; clear hr1
  by_cases h0 : 0 ≤ r
  · go_wp2_with fail
    go_ret
    exact ⟨ret_bool (by rcases HA.out with h | h; exact h.2.symm; omega), hb1⟩
  · have h0' : r < 0 := by omega
    go_wp2_with fail
    go_ret
    exact ⟨ret_bool (by rcases HA.out with h | h; omega; rw [h.2]; simp; omega), hb1⟩

set_option maxHeartbeats 400000 in
theorem withPiles1_any (tb G gb gv capb : Nat) (rb : Nat → Nat) (N : Nat) (bet : Nat → Nat → Int) (val : Nat → Int) (ed z : Int) (ad : Option Addr) (cap : Nat) (d : List Int) (w : World) (h : GrAt w G gb gv capb rb N bet val ed) (ht : Own w tb 55 [.pointer (some ⟨G, 0, none⟩), .int .i64 z]) (hl : d.length ≤ 1048576) (hr : RdI w ad d) (hz0 : 0 ≤ z) (hz1 : z < N) :
    Calls Try.prog 73 #[.slice ad d.length cap, .pointer (some ⟨tb, 0, none⟩)] w fun e w' => e = .returned (.bool (!pileB N z d)) ∧ Below w.heap.size w w' := by
  have k0 := ht.cell? (i := 0) rfl
  have k1 := ht.cell? (i := 1) rfl
  have HT := Lib.hid ht; clear ht
  go_enter Try.func73, Try.ntmps73
  go_wp2_with fail
  refine (isPile_any G gb gv capb rb N bet val ed z ad cap d _ h hl hr hz0 hz1).mono ?_
  rintro e w1 ⟨rfl, hb1⟩
  go_wp2_with fail
  go_ret
  exact ⟨rfl, hb1⟩

/-- Piles that lie in a list. -/
def PilesAt (w : World) (vs : List Value) (ds : List (List Int)) : Prop := vs.length = ds.length ∧ ∀ i v, vs[i]? = some v → ∃ ad cap, v = .slice ad (ds.getD i []).length cap ∧ (ds.getD i []).length ≤ 1048576 ∧ RdI w ad (ds.getD i [])
theorem PilesAt.below {w w' : World} {vs : List Value} {ds : List (List Int)} (h : PilesAt w vs ds) (hb : Below w.heap.size w w') : PilesAt w' vs ds := ⟨h.1, fun i v hv => by
  obtain ⟨ad, cap, e, hl, hr⟩ := h.2 i v hv
  exact ⟨ad, cap, e, hl, hr.below hb⟩⟩
noncomputable def wpB (n : Int) (ls : List Lk) (z : Int) (ds : List (List Int)) : Bool := pgB n ls z && !((List.range ds.length).any fun i => !pileB n z (ds.getD i []))

set_option maxHeartbeats 1600000 in
set_option maxRecDepth 100000 in
theorem withPiles_any (n : Int) (ad : Option Addr) (cap : Nat) (ls : List Lk) (z : Int) (g capg : Nat) (vs : List Value) (ds : List (List Int)) (w : World) (hl : ls.length ≤ 1048576) (hr : RdL w ad ls) (hg : goodL n ls = true) (hlv : vs.length ≤ 1048576) (ho : Own w g 23 vs) (hp : PilesAt w vs ds) :
    Calls Try.prog 41 #[.int .i64 n, .slice ad ls.length cap, .int .i64 z, .slice (some ⟨g, 0, none⟩) vs.length capg] w (RetTab n z (wpB n ls z ds) ls w) := by
  have HO := Lib.hid ho; clear ho
  have HP := Lib.hid hp; clear hp
  have hb0 : Below w.heap.size w (w.alloc (.cells #[.pointer none, .int .i64 0] 55)) := (Below.refl _ _).alloc (Nat.le_refl _) _
  by_cases hpg : pgB n ls z = true
  case neg =>
    have hpg' := Bool.eq_false_iff.2 hpg
    have hR := Lib.hid (show wpB n ls z ds = false by simp [wpB, hpg'])
    go_enter Try.func41, Try.ntmps41
    go_wp2_with fail
    refine (tableOf_any n ad cap ls z _ hl (hr.below hb0) hg).mono ?_
    rw [hpg']
    rintro e w1 ⟨G, gb, gv, capb, rb, rfl, hG, hGB, hGV, hb1⟩
    simp only [World.size_alloc] at hGB hGV
    have h1 : w.heap.size ≤ G := by omega
    have h2 : w.heap.size ≤ gv := by omega
    have hbw := ball hb0 hb1
    have hres := (Own.newA w #[.pointer none, .int .i64 0] 55 rfl).belowAll hb1
    have hb2 := (Below.refl w1.heap.size w1).alloc (Nat.le_refl _) (.cells #[.pointer (some ⟨G, 0, none⟩), .int .i64 z] 55)
    have HRS := Lib.hid (hres.belowAll hb2); clear hres
    have HGR := Lib.hid (hG.below hb2); clear hG
    have HT := Lib.hid (Own.newA w1 #[.pointer (some ⟨G, 0, none⟩), .int .i64 z] 55 rfl)
    have hbw2 := ball hbw hb2
    go_wp2_with fail
    generalize w1.alloc (.cells #[.pointer (some ⟨G, 0, none⟩), .int .i64 z] 55) = W at HRS HGR HT hbw2 hb2 ⊢
    have k0 := HT.out.cell? (i := 0) rfl
    have k1 := HT.out.cell? (i := 1) rfl
    have r0 := HRS.out.cell? (i := 0) rfl
    have r1 := HRS.out.cell? (i := 1) rfl
    have z0 := HRS.out.frozen 0
    have z1 := HRS.out.frozen 1
    have HS := Lib.hid ((HRS.out.set 0 (.pointer (some ⟨G, 0, none⟩))).set 1 (.int .i64 z))
    first | go_region_with (fail) | fail "region"
    all_goals
      go_wp2_with fail
      have q0 := HS.out.cell? (i := 0) rfl
      have q1 := HS.out.cell? (i := 1) rfl
      refine bodyPost_ret (v := .tuple #[.agg #[.pointer (some ⟨G, 0, none⟩), .int .i64 z], .bool false]) (by simp [results, Try.results41, go_sem, q0, q1]) rfl ?_
      exact (RetTab.of HGR.out h1 h2 hbw2 HRS.out (((Chg.set _ _ _ _).trans (Chg.set _ _ _ _)).trans (Chg.drew _ _))).cast hR.out.symm
  case pos =>
    obtain ⟨_, h5, he, hc, hz⟩ := pgB_t.1 hpg
    obtain ⟨hz0, hz1⟩ := inB_t.1 hz
    have hn1 := good_n hg
    obtain ⟨pb, hpb⟩ : ∃ pb, ((List.range vs.length).any fun i => !pileB n z (ds.getD i [])) = pb := ⟨_, rfl⟩
    have hR := Lib.hid (show wpB n ls z ds = !pb by rw [← hpb, HP.out.1]; simp [wpB, hpg])
    have HPB := Lib.hid hpb; clear hpb
    have hmf : ∀ (fn : Fn) (first cap : Array Value) (w : World), (Instr.makeFunc fn first cap).run Try.prog w = .ok (.func fn first cap) w := fun _ _ _ _ => rfl
    have hnn : Hid ((n.toNat : Int) = n) := Int.toNat_of_nonneg (by omega)
    go_enter Try.func41, Try.ntmps41
    go_wp2_with fail
    refine (tableOf_any n ad cap ls z _ hl (hr.below hb0) hg).mono ?_
    rw [hpg]
    rintro e w1 ⟨G, gb, gv, capb, rb, rfl, hG, hGB, hGV, hb1⟩
    simp only [World.size_alloc] at hGB hGV
    have h1 : w.heap.size ≤ G := by omega
    have h2 : w.heap.size ≤ gv := by omega
    have hbw := ball hb0 hb1
    have hres := (Own.newA w #[.pointer none, .int .i64 0] 55 rfl).belowAll hb1
    have hb2 := (Below.refl w1.heap.size w1).alloc (Nat.le_refl _) (.cells #[.pointer (some ⟨G, 0, none⟩), .int .i64 z] 55)
    have HRS := Lib.hid (hres.belowAll hb2); clear hres
    have HGR := Lib.hid (hG.below hb2); clear hG
    have HT := Lib.hid (Own.newA w1 #[.pointer (some ⟨G, 0, none⟩), .int .i64 z] 55 rfl)
    have hbw2 := ball hbw hb2
    go_wp2_with fail
    generalize w1.alloc (.cells #[.pointer (some ⟨G, 0, none⟩), .int .i64 z] 55) = W at HRS HGR HT hbw2 hb2 ⊢
    have k0 := HT.out.drew.cell? (i := 0) rfl
    have k1 := HT.out.drew.cell? (i := 1) rfl
    have kl := HT.out.drew.lt
    have hne : w1.heap.size ≠ w.heap.size := by have := hb1.size; simp at this; omega
    have hcall := containsFuncII_any 73 (.pointer (some ⟨w1.heap.size, 0, none⟩)) (fun i => !pileB n z (ds.getD i [])) g capg vs W.drew hlv (HO.out.belowAll hbw2.drew) (callFunc_plain Try.func73 (by kernel_rfl) (by kernel_rfl)) (fun i v w' hv hb => by
      obtain ⟨ad', cap', rfl, hl', hr'⟩ := (HP.out.below (ball hbw2.drew hb)).2 i v hv
      have := withPiles1_any w1.heap.size G gb gv capb rb n.toNat _ _ _ z ad' cap' (ds.getD i []) w' (HGR.out.drew.below hb) (HT.out.drew.belowAll hb) hl' hr' hz0 (by omega)
      rwa [hnn.out] at this)
    rw [HPB.out] at hcall
    have HC := Lib.hid hcall; clear hcall
    go_region_held3 (fun w' => w'.cell? ⟨w1.heap.size, 0, none⟩ = some (.pointer (some ⟨G, 0, none⟩)) ∧ w'.cell? ⟨w1.heap.size, 1, none⟩ = some (.int .i64 z)) (first | exact ⟨by assumption, by assumption⟩ | exact ⟨((HT3.out.setOther (a := ⟨w.heap.size, 0, none⟩) hne _).setOther (a := ⟨w.heap.size, 1, none⟩) hne _).cell? (i := 0) rfl, ((HT3.out.setOther (a := ⟨w.heap.size, 0, none⟩) hne _).setOther (a := ⟨w.heap.size, 1, none⟩) hne _).cell? (i := 1) rfl⟩)
      (first | (go_at_call 72; (with_reducible refine HC.out.mono ?_); rintro e w2 ⟨rfl, hb3⟩; have m0 := bcell hb3 kl k0; have m1 := bcell hb3 kl k1; have hres3 := HRS.out.drew.belowAll hb3; have r0 := hres3.cell? (i := 0) rfl; have r1 := hres3.cell? (i := 1) rfl; have z0 := hres3.frozen 0; have z1 := hres3.frozen 1; have HRS3 := Lib.hid hres3; clear hres3; have HT3 := Lib.hid (HT.out.drew.belowAll hb3)))
    go_wp2_with fail
    have HS := Lib.hid ((HRS3.out.set 0 (.pointer (some ⟨G, 0, none⟩))).set 1 (.int .i64 z))
    have q0 := HS.out.cell? (i := 0) rfl
    have q1 := HS.out.cell? (i := 1) rfl
    refine bodyPost_ret (v := .tuple #[.agg #[.pointer (some ⟨G, 0, none⟩), .int .i64 z], .bool (!pb)]) (by simp [results, Try.results41, go_sem, q0, q1]) rfl ?_
    exact (RetTab.of (HGR.out.drew.below hb3) h1 h2 (ball hbw2.drew hb3) HRS3.out ((Chg.set _ _ _ _).trans (Chg.set _ _ _ _))).cast hR.out.symm

set_option maxHeartbeats 800000 in
set_option maxRecDepth 100000 in
theorem withPiles_no (n : Int) (ad : Option Addr) (cap : Nat) (ls : List Lk) (z : Int) (v : Value) (w : World) (hl : ls.length ≤ 1048576) (hr : RdL w ad ls) (hg : goodL n ls = false) :
    Calls Try.prog 41 #[.int .i64 n, .slice ad ls.length cap, .int .i64 z, v] w fun e w' => e = .returned (.tuple #[.agg #[.pointer none, .int .i64 z], .bool false]) ∧ Below w.heap.size w w' := by
  have hb0 : Below w.heap.size w (w.alloc (.cells #[.pointer none, .int .i64 0] 55)) := (Below.refl _ _).alloc (Nat.le_refl _) _
  go_enter Try.func41, Try.ntmps41
  go_wp2_with fail
  refine (tableOf_no n ad cap ls z _ hl (hr.below hb0) hg).mono ?_
  rintro e w1 ⟨rfl, hb1⟩
  have hbw := ball hb0 hb1
  have hres := (Own.newA w #[.pointer none, .int .i64 0] 55 rfl).belowAll hb1
  have hb2 := (Below.refl w1.heap.size w1).alloc (Nat.le_refl _) (.cells #[.pointer none, .int .i64 z] 55)
  have HRS := Lib.hid (hres.belowAll hb2); clear hres
  have HT := Lib.hid (Own.newA w1 #[.pointer none, .int .i64 z] 55 rfl)
  have hbw2 := ball hbw hb2
  go_wp2_with fail
  generalize w1.alloc (.cells #[.pointer none, .int .i64 z] 55) = W at HRS HT hbw2 hb2 ⊢
  have k0 := HT.out.cell? (i := 0) rfl
  have k1 := HT.out.cell? (i := 1) rfl
  have r0 := HRS.out.cell? (i := 0) rfl
  have r1 := HRS.out.cell? (i := 1) rfl
  have z0 := HRS.out.frozen 0
  have z1 := HRS.out.frozen 1
  have HS := Lib.hid ((HRS.out.set 0 (.pointer none)).set 1 (.int .i64 z))
  first | go_region_with (fail) | fail "region"
  all_goals
    go_wp2_with fail
    have q0 := HS.out.cell? (i := 0) rfl
    have q1 := HS.out.cell? (i := 1) rfl
    refine bodyPost_ret (v := .tuple #[.agg #[.pointer none, .int .i64 z], .bool false]) (by simp [results, Try.results41, go_sem, q0, q1]) rfl ?_
    exact ⟨rfl, ((hbw2.setCell (Nat.le_refl _) _).setCell (Nat.le_refl _) _).drew⟩

end Go.Proofs.Ytopkohkilmlpaaa
