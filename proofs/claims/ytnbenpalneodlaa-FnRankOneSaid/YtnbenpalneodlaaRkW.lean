/-
  The draws of outer products and of ranked matrices. Printed by gen_rkW.py. By an AI agent.
-/
import Derived.Test.YtnbenpalneodlaaRkV
namespace Go.Proofs.Ytnbenpalneodlaa
open Go.RowKit

set_option maxHeartbeats 1600000 in
set_option maxRecDepth 100000 in
theorem drawSingular_c (ad : Option Addr) (len cap : Nat) (w : World) (hl : len ≤ 9223372036854775807) (hr : RdB w ad len) :
    Calls Try.prog 36 #[.slice ad len cap] w (MatR w) := by
  have HC := Lib.hid (cur_new (cap := cap) hr hl)
  clear hr
  go_enter Try.func36, Try.ntmps36
  go_wp2_with fail
  obtain ⟨wA, hwA⟩ : ∃ x, w.alloc (.cells #[.slice ad len cap, .int .i64 0, .int .u64 0] 45) = x := ⟨_, rfl⟩
  have hnew : ∀ w', Chg w.heap.size wA w' → Below w.heap.size w w' := fun w' h => by rw [← hwA] at h; exact chg_new h
  rw [hwA] at HC ⊢
  have HNEW := Lib.hid hnew; clear hnew hwA
  refine (ranked_c w.heap.size 0 wA HC.out (by omega)).mono ?_
  rintro e w2 ⟨ad2, cap2, M, rfl, hsm, hmat, hch⟩
  have HS := Lib.hid hsm; have HM := Lib.hid hmat; have HB := Lib.hid (HNEW.out _ hch)
  clear hsm hmat hch
  go_wp2_with fail
  go_ret
  exact ⟨ad2, cap2, M, rfl, HS.out, HM.out, HB.out⟩
set_option maxHeartbeats 800000 in
set_option maxRecDepth 100000 in
theorem drawBounds_c (ad : Option Addr) (len cap : Nat) (w : World) (hl : len ≤ 9223372036854775807) (hr : RdB w ad len) :
    Calls Try.prog 13 #[.slice ad len cap] w (MatR w) := by
  have C := Lib.hid (drawSingular_c ad len cap w hl hr)
  clear hr
  go_enter Try.func13, Try.ntmps13
  go_wp2_with fail
  refine C.out.mono ?_
  rintro e w2 ⟨ad2, cap2, M, rfl, hsm, hmat, hb⟩
  have HS := Lib.hid hsm; have HM := Lib.hid hmat; have HB := Lib.hid hb
  clear hsm hmat hb
  go_wp2_with fail
  go_ret
  exact ⟨ad2, cap2, M, rfl, HS.out, HM.out, HB.out⟩
theorem ouL_sm7 {u v : List Int} (hu : u.length ≤ 7) (hv : v.length ≤ 7) : sm7 (ouL u v) :=
  have e : (ouL u v).length = u.length := (matG _ _ _).1
  ⟨by rw [e]; exact hu, fun i hi => by
    rw [e] at hi
    show ((toG u.length v.length (outM u v)).getD i []).length ≤ 7
    rw [(matG _ _ _).2 i hi]; exact hv⟩
set_option maxHeartbeats 6400000 in
set_option maxRecDepth 100000 in
theorem drawRankOne_c (ad : Option Addr) (len cap : Nat) (w : World) (hl : len ≤ 9223372036854775807) (hr : RdB w ad len) :
    Calls Try.prog 10 #[.slice ad len cap] w (MatR w) := by
  have HC := Lib.hid (cur_new (cap := cap) hr hl)
  clear hr
  go_enter Try.func10, Try.ntmps10
  go_wp2_with fail
  obtain ⟨wA, hwA⟩ : ∃ x, w.alloc (.cells #[.slice ad len cap, .int .i64 0, .int .u64 0] 45) = x := ⟨_, rfl⟩
  have hnew : ∀ w', Chg w.heap.size wA w' → Below w.heap.size w w' := fun w' h => by rw [← hwA] at h; exact chg_new h
  rw [hwA] at HC ⊢
  have HNEW := Lib.hid hnew; clear hnew hwA
  obtain ⟨g, hg⟩ : ∃ g, w.heap.size = g := ⟨_, rfl⟩
  rw [hg] at HC HNEW ⊢
  have HG := Lib.hid hg
  have hcl := HC.out.lt
  clear hg
  have HF0 := Lib.hid (Chg.refl g wA)
  refine (pick_c 4 g (0) wA HC.out (by omega)).mono ?_
  rintro e w1 ⟨x1, rfl, hx, hcu, hch⟩
  obtain ⟨n1, hn⟩ : ∃ R : Nat, 1 + x1 = (R : Int) := ⟨(1 + x1).toNat, by omega⟩
  have e1 : IntKind.i64.wrap (1 + x1) = (n1 : Int) := by rw [i64_small (by omega) (by omega)]; exact hn
  have b1 : 1 ≤ n1 ∧ n1 ≤ 4 := by omega
  have HU1 := Lib.hid hcu; have HF1 := Lib.hid (HF0.out.trans hch)
  clear hcu hch hx hn
  go_wp2_with fail
  refine (vector_c n1 g (0 + 2) w1 HU1.out (by omega) (by omega)).mono ?_
  rintro e w2 ⟨v2, u, rfl, hul, hrow, hcu, hch⟩
  obtain ⟨a2, c2, rfl, _⟩ := hrow.shape
  have hz2 := hch.size
  have HL2 := Lib.hid hul; have HR2 := Lib.hid hrow; have HU2 := Lib.hid hcu; have HF2 := Lib.hid (HF1.out.trans hch)
  have HCH2 := Lib.hid hch
  clear hul hrow hcu hch
  have HLU := Lib.hid (show u.length ≤ 7 by rw [HL2.out]; omega)
  go_wp2_with fail
  refine (pick_c 4 g (0 + 2 + 60) w2 HU2.out (by omega)).mono ?_
  rintro e w3 ⟨x3, rfl, hx, hcu, hch⟩
  obtain ⟨n3, hn⟩ : ∃ R : Nat, 1 + x3 = (R : Int) := ⟨(1 + x3).toNat, by omega⟩
  have e3 : IntKind.i64.wrap (1 + x3) = (n3 : Int) := by rw [i64_small (by omega) (by omega)]; exact hn
  have b3 : 1 ≤ n3 ∧ n3 ≤ 4 := by omega
  have HU3 := Lib.hid hcu; have HF3 := Lib.hid (HF2.out.trans hch); have HCH3 := Lib.hid hch
  clear hcu hch hx hn
  go_wp2_with fail
  refine (vector_c n3 g (0 + 2 + 60 + 2) w3 HU3.out (by omega) (by omega)).mono ?_
  rintro e w4 ⟨v4, v, rfl, hul, hrow, hcu, hch⟩
  obtain ⟨a4, c4, rfl, _⟩ := hrow.shape
  have hz4 := hch.size
  have HL4 := Lib.hid hul; have HR4 := Lib.hid hrow; have HU4 := Lib.hid hcu; have HF4 := Lib.hid (HF3.out.trans hch)
  have HCH4 := Lib.hid hch
  clear hul hrow hcu hch
  have HLV := Lib.hid (show v.length ≤ 7 by rw [HL4.out]; omega)
  have HRU := Lib.hid (show RdI w4 a2 u from (CellO.of_row (row_chg HR2.out (HCH3.out.trans HCH4.out) (Nat.lt_of_lt_of_le hcl (by have := HF1.out.size; exact this)))).rd)
  have HRV := Lib.hid (show RdI w4 a4 v from (CellO.of_row HR4.out).rd)
  go_wp2_with fail
  refine (sOuter_c a2 c2 u a4 c4 v w4 HRU.out HRV.out (by have := HLU.out; omega) (by have := HLV.out; omega)).mono ?_
  cases hB : ouB u v
  · rintro e w5 ⟨⟨ad5, cap5, rfl, hrd, hb5⟩, hkeep⟩
    have HF5 := Lib.hid (HF4.out.trans (Chg.of_below (b := g) hb5))
    have HU5 := Lib.hid (HU4.out.below hb5)
    clear hrd hb5 hkeep
    go_wp2_with fail
    refine (ranked_c g (0 + 2 + 60 + 2 + 60) w5 HU5.out (by omega)).mono ?_
    rintro e wZ ⟨ad2, cap2, M, rfl, hsm, hmat, hch⟩
    have HS := Lib.hid hsm; have HM := Lib.hid hmat; have HB := Lib.hid (HNEW.out _ (HF5.out.trans hch))
    clear hsm hmat hch
    go_wp2_with fail
    go_ret
    exact ⟨ad2, cap2, M, rfl, HS.out, HM.out, by rw [HG.out]; exact HB.out⟩
  · rintro e w5 ⟨⟨ad5, cap5, rfl, hrd, hb5⟩, hkeep⟩
    have hg4 : g < w4.heap.size := HU4.out.lt
    have HRDC := Lib.hid (fun u2 (h : Chg g w5 u2) => hkeep _ _ _ rfl g u2 hg4 h)
    have HF5 := Lib.hid (HF4.out.trans (Chg.of_below (b := g) hb5))
    have HU5 := Lib.hid (HU4.out.below hb5)
    have HRD := Lib.hid (show RdM w5 ad5 (ouL u v) from hrd)
    have HSM := Lib.hid (ouL_sm7 HLU.out HLV.out)
    clear hrd hb5 hkeep
    rw [if_pos rfl]
    generalize ouL u v = L at HRD HSM HRDC ⊢
    go_wp2_with fail
    refine (one_c 4 g (0 + 2 + 60 + 2 + 60) w5 HU5.out (by omega)).mono ?_
    rintro e w6 ⟨bb, rfl, hcu, hch⟩
    have HU6 := Lib.hid hcu; have HF6 := Lib.hid (HF5.out.trans hch)
    have HRD6 := Lib.hid (HRDC.out _ hch)
    clear hcu hch
    cases bb
    · go_wp2_with fail
      have HB := Lib.hid (HNEW.out _ HF6.out)
      go_ret
      exact ⟨ad5, cap5, L, rfl, HSM.out, HRD6.out, by rw [HG.out]; exact HB.out⟩
    · go_wp2_with fail
      refine (ranked_c g (0 + 2 + 60 + 2 + 60 + 2) w6 HU6.out (by omega)).mono ?_
      rintro e wZ ⟨ad2, cap2, M, rfl, hsm, hmat, hch⟩
      have HS := Lib.hid hsm; have HM := Lib.hid hmat; have HB := Lib.hid (HNEW.out _ (HF6.out.trans hch))
      clear hsm hmat hch
      go_wp2_with fail
      go_ret
      exact ⟨ad2, cap2, M, rfl, HS.out, HM.out, by rw [HG.out]; exact HB.out⟩
def VeR (w : World) (e : Ending) (w' : World) : Prop := ∃ a1 c1 u a2 c2 v, e = .returned (.tuple #[.slice a1 (List.length u) c1, .slice a2 (List.length v) c2]) ∧ (u.length ≤ 7 ∧ v.length ≤ 7) ∧ RdI w' a1 u ∧ RdI w' a2 v ∧ Below w.heap.size w w'
set_option maxHeartbeats 6400000 in
set_option maxRecDepth 100000 in
theorem drawOuter_c (ad : Option Addr) (len cap : Nat) (w : World) (hl : len ≤ 9223372036854775807) (hr : RdB w ad len) :
    Calls Try.prog 4 #[.slice ad len cap] w (VeR w) := by
  have HC := Lib.hid (cur_new (cap := cap) hr hl)
  clear hr
  go_enter Try.func4, Try.ntmps4
  go_wp2_with fail
  obtain ⟨wA, hwA⟩ : ∃ x, w.alloc (.cells #[.slice ad len cap, .int .i64 0, .int .u64 0] 45) = x := ⟨_, rfl⟩
  have hnew : ∀ w', Chg w.heap.size wA w' → Below w.heap.size w w' := fun w' h => by rw [← hwA] at h; exact chg_new h
  rw [hwA] at HC ⊢
  have HNEW := Lib.hid hnew; clear hnew hwA
  obtain ⟨g, hg⟩ : ∃ g, w.heap.size = g := ⟨_, rfl⟩
  rw [hg] at HC HNEW ⊢
  have HG := Lib.hid hg
  have hcl := HC.out.lt
  clear hg
  have HF0 := Lib.hid (Chg.refl g wA)
  refine (pick_c 4 g (0) wA HC.out (by omega)).mono ?_
  rintro e w1 ⟨x1, rfl, hx, hcu, hch⟩
  obtain ⟨n1, hn⟩ : ∃ R : Nat, 1 + x1 = (R : Int) := ⟨(1 + x1).toNat, by omega⟩
  have e1 : IntKind.i64.wrap (1 + x1) = (n1 : Int) := by rw [i64_small (by omega) (by omega)]; exact hn
  have b1 : 1 ≤ n1 ∧ n1 ≤ 4 := by omega
  have HU1 := Lib.hid hcu; have HF1 := Lib.hid (HF0.out.trans hch)
  clear hcu hch hx hn
  go_wp2_with fail
  refine (one_c 12 g (0 + 2) w1 HU1.out (by omega)).mono ?_
  rintro e w2 ⟨bb, rfl, hcu, hch⟩
  have HU2 := Lib.hid hcu; have HF2 := Lib.hid (HF1.out.trans hch)
  clear hcu hch HU1 HF1 HF0 HC
  go_upto_if 13 with fail
  go_cut [5] from 14 to 16 (fun s wc => (∃ N : Nat, N ≤ 7 ∧ s = .int .i64 N) ∧ Cur wc g (0 + 2 + 2 + 2) ∧ Chg g wA wc)
  case first =>
    cases bb
    · go_wp2_with fail
      go_meet
      exact ⟨⟨n1, by omega, rfl⟩, HU2.out.mono (by omega), HF2.out⟩
    · have hoA := Own.newA w2 #[.int .i64 0, .int .i64 6, .int .i64 7] 3 rfl
      have HOA := Lib.hid (show Own _ w2.heap.size 3 (ints [0, 6, 7]) from hoA)
      have hba := bal_alloc (o := .cells #[.int .i64 0, .int .i64 6, .int .i64 7] 3) (Below.refl w2.heap.size w2)
      have HUA := Lib.hid (HU2.out.below hba)
      have HFA := Lib.hid (HF2.out.trans (Chg.of_below (b := g) hba))
      have hcq : g < w2.heap.size := HU2.out.lt
      clear hoA hba
      go_wp2_with fail
      refine (among_c w2.heap.size 3 [0, 6, 7] g (0 + 2 + 2) _ HUA.out (by omega) (by simp) (by simp) (by omega) HOA.out).mono ?_
      rintro e w3' ⟨z, rfl, hz, hcu, hch⟩
      have HFz := Lib.hid (HFA.out.trans hch)
      have HUz := Lib.hid hcu
      obtain ⟨N, hN, rfl⟩ : ∃ N : Nat, N ≤ 7 ∧ z = (N : Int) := by
        simp only [List.mem_cons, List.not_mem_nil, or_false] at hz
        rcases hz with rfl | rfl | rfl
        · exact ⟨0, by omega, rfl⟩
        · exact ⟨6, by omega, rfl⟩
        · exact ⟨7, by omega, rfl⟩
      clear hcu hch hz
      go_wp2_with fail
      go_meet
      exact ⟨⟨N, hN, rfl⟩, HUz.out.mono (by omega), HFz.out⟩
  case rest =>
    obtain ⟨⟨n5, h5, rfl⟩, hcu, hch⟩ := hcut
    have HU5 := Lib.hid hcu; have HF5 := Lib.hid hch
    clear hcu hch HU2 HF2 e1 b1
    go_wp2_with fail
    refine (vector_c n5 g (0 + 2 + 2 + 2) wc HU5.out (by omega) (by omega)).mono ?_
    rintro e w6 ⟨v6, u, rfl, hul, hrow, hcu, hch⟩
    obtain ⟨a6, c6, rfl, _⟩ := hrow.shape
    have hz6 := hch.size
    have HL6 := Lib.hid hul; have HR6 := Lib.hid hrow; have HU6 := Lib.hid hcu; have HF6 := Lib.hid (HF5.out.trans hch)
    have HCH6 := Lib.hid hch
    clear hul hrow hcu hch
    have HLU := Lib.hid (show u.length ≤ 7 by rw [HL6.out]; omega)
    go_wp2_with fail
    refine (pick_c 4 g (0 + 2 + 2 + 2 + 60) w6 HU6.out (by omega)).mono ?_
    rintro e w7 ⟨x7, rfl, hx, hcu, hch⟩
    obtain ⟨n7, hn⟩ : ∃ R : Nat, 1 + x7 = (R : Int) := ⟨(1 + x7).toNat, by omega⟩
    have e7 : IntKind.i64.wrap (1 + x7) = (n7 : Int) := by rw [i64_small (by omega) (by omega)]; exact hn
    have b7 : 1 ≤ n7 ∧ n7 ≤ 4 := by omega
    have HU7 := Lib.hid hcu; have HCH7 := Lib.hid hch; have HF7 := Lib.hid (HF6.out.trans hch)
    clear hcu hch hx hn
    go_wp2_with fail
    refine (vector_c n7 g (0 + 2 + 2 + 2 + 60 + 2) w7 HU7.out (by omega) (by omega)).mono ?_
    rintro e w8 ⟨v8, v, rfl, hul, hrow, hcu, hch⟩
    obtain ⟨a8, c8, rfl, _⟩ := hrow.shape
    have hz8 := hch.size
    have HL8 := Lib.hid hul; have HR8 := Lib.hid hrow; have HU8 := Lib.hid hcu; have HF8 := Lib.hid (HF7.out.trans hch)
    have HCH8 := Lib.hid hch
    clear hul hrow hcu hch
    have HLV := Lib.hid (show v.length ≤ 7 by rw [HL8.out]; omega)
    have HRU := Lib.hid (show RdI w8 a6 u from (CellO.of_row (row_chg HR6.out (HCH7.out.trans HCH8.out) HU5.out.lt)).rd)
    have HRV := Lib.hid (show RdI w8 a8 v from (CellO.of_row HR8.out).rd)
    have HB := Lib.hid (HNEW.out _ HF8.out)
    go_wp2_with fail
    exact bodyPost_ret (v := .tuple #[.slice a6 u.length c6, .slice a8 v.length c8]) (by simp [results, Try.results4, go_sem]) rfl ⟨a6, c6, u, a8, c8, v, rfl, ⟨HLU.out, HLV.out⟩, HRU.out, HRV.out, by rw [HG.out]; exact HB.out⟩
end Go.Proofs.Ytnbenpalneodlaa
