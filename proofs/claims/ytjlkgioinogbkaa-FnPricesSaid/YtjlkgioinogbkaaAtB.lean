/-
  What the draws of costs, prices and assignments give. Printed by gen_atB.py. By an AI agent.
-/
import Derived.Test.YtjlkgioinogbkaaAtA
import Derived.Test.YtjlkgioinogbkaaOpen
namespace Go.Proofs.Ytjlkgioinogbkaa
open Go.RowKit

def sm7 (M : List (List Int)) : Prop := M.length ≤ 7 ∧ ∀ i, i < M.length → (M.getD i []).length ≤ 7
theorem sm7_smM {M : List (List Int)} (h : sm7 M) : smM M := ⟨by have := h.1; omega, fun i hi => by have := h.2 i hi; omega⟩
def MatR (w : World) (e : Ending) (w' : World) : Prop := ∃ ad cap M, e = .returned (.slice ad (List.length M) cap) ∧ sm7 M ∧ RdM w' ad M ∧ Below w.heap.size w w'
def MatUV (w : World) (e : Ending) (w' : World) : Prop := ∃ ad cap M a1 c1 u a2 c2 v, e = .returned (.tuple #[.slice ad (List.length M) cap, .slice a1 (List.length u) c1, .slice a2 (List.length v) c2]) ∧ (sm7 M ∧ u.length ≤ 7 ∧ v.length ≤ 7) ∧ RdM w' ad M ∧ RdI w' a1 u ∧ RdI w' a2 v ∧ Below w.heap.size w w'
def MatAUV (w : World) (e : Ending) (w' : World) : Prop := ∃ ad cap M aa ca a a1 c1 u a2 c2 v, e = .returned (.tuple #[.slice ad (List.length M) cap, .slice aa (List.length a) ca, .slice a1 (List.length u) c1, .slice a2 (List.length v) c2]) ∧ (sm7 M ∧ (a.length ≤ ca ∧ a.length ≤ 7) ∧ u.length ≤ 7 ∧ v.length ≤ 7) ∧ RdM w' ad M ∧ RdI w' aa a ∧ RdI w' a1 u ∧ RdI w' a2 v ∧ Below w.heap.size w w'

set_option maxHeartbeats 1600000 in
set_option maxRecDepth 100000 in
theorem drawBest_c (ad : Option Addr) (len cap : Nat) (w : World) (hl : len ≤ 9223372036854775807) (hr : RdB w ad len) :
    Calls Try.prog 21 #[.slice ad len cap] w (MatR w) := by
  have HC := Lib.hid (cur_new (cap := cap) hr hl)
  clear hr
  go_enter Try.func21, Try.ntmps21
  go_wp2_with fail
  obtain ⟨wA, hwA⟩ : ∃ x, w.alloc (.cells #[.slice ad len cap, .int .i64 0, .int .u64 0] 62) = x := ⟨_, rfl⟩
  have hnew : ∀ w', Chg w.heap.size wA w' → Below w.heap.size w w' := fun w' h => by rw [← hwA] at h; exact chg_new h
  rw [hwA] at HC ⊢
  have HNEW := Lib.hid hnew; clear hnew hwA
  obtain ⟨g, hg⟩ : ∃ g, w.heap.size = g := ⟨_, rfl⟩
  rw [hg] at HC HNEW ⊢
  have HG := Lib.hid hg
  have hcl := HC.out.lt
  clear hg
  refine (costTable_c g 0 wA HC.out (by omega)).mono ?_
  rintro e w2 ⟨ad2, cap2, M, vs, rfl, hsm, hmat, hcu, hch⟩
  have hz2 := hch.size
  have HS := Lib.hid (show sm7 M from hsm); have HM := Lib.hid hmat; have HU := Lib.hid hcu; have HF := Lib.hid hch
  clear hsm hmat hcu hch
  go_wp2_with fail
  have HB := Lib.hid (HNEW.out _ HF.out); have HMR := Lib.hid HM.out.rd
  go_ret
  exact ⟨ad2, cap2, M, rfl, HS.out, HMR.out, by rw [HG.out]; exact HB.out⟩
set_option maxHeartbeats 800000 in
theorem drawRow_c (ad : Option Addr) (len cap : Nat) (w : World) (hl : len ≤ 9223372036854775807) (hr : RdB w ad len) :
    Calls Try.prog 5 #[.slice ad len cap] w (MatR w) := by
  have C := Lib.hid (drawBest_c ad len cap w hl hr)
  clear hr
  go_enter Try.func5, Try.ntmps5
  go_wp2_with fail
  refine C.out.mono ?_
  rintro e w2 ⟨ad2, cap2, M, rfl, hsm, hmat, hb⟩
  have HS := Lib.hid hsm; have HM := Lib.hid hmat; have HB := Lib.hid hb
  clear hsm hmat hb
  go_wp2_with fail
  go_ret
  exact ⟨ad2, cap2, M, rfl, HS.out, HM.out, HB.out⟩
set_option maxHeartbeats 1600000 in
set_option maxRecDepth 100000 in
theorem drawAre_c (ad : Option Addr) (len cap : Nat) (w : World) (hl : len ≤ 9223372036854775807) (hr : RdB w ad len) :
    Calls Try.prog 19 #[.slice ad len cap] w (MatUV w) := by
  have HC := Lib.hid (cur_new (cap := cap) hr hl)
  clear hr
  go_enter Try.func19, Try.ntmps19
  go_wp2_with fail
  obtain ⟨wA, hwA⟩ : ∃ x, w.alloc (.cells #[.slice ad len cap, .int .i64 0, .int .u64 0] 62) = x := ⟨_, rfl⟩
  have hnew : ∀ w', Chg w.heap.size wA w' → Below w.heap.size w w' := fun w' h => by rw [← hwA] at h; exact chg_new h
  rw [hwA] at HC ⊢
  have HNEW := Lib.hid hnew; clear hnew hwA
  obtain ⟨g, hg⟩ : ∃ g, w.heap.size = g := ⟨_, rfl⟩
  rw [hg] at HC HNEW ⊢
  have HG := Lib.hid hg
  have hcl := HC.out.lt
  clear hg
  refine (costTable_c g 0 wA HC.out (by omega)).mono ?_
  rintro e w2 ⟨ad2, cap2, M, vs, rfl, hsm, hmat, hcu, hch⟩
  have hz2 := hch.size
  have HS := Lib.hid (show sm7 M from hsm); have HM := Lib.hid hmat; have HU := Lib.hid hcu; have HF := Lib.hid hch
  clear hsm hmat hcu hch
  go_wp2_with fail
  refine (prices_c ad2 cap2 M g (0 + 1100) w2 HM.out.rd (sm7_smM HS.out) HS.out.1 HU.out (by omega)).mono ?_
  rintro e w3 ⟨a1, a2, c1, c2, u, v, rfl, hru, hrv, ⟨ho1, ho2⟩, hul, hvl, hcu, hch⟩
  have HM3 := Lib.hid (HM.out.chg hch hcl)
  have HU3 := Lib.hid hcu; have HF3 := Lib.hid (HF.out.trans hch)
  have HRU := Lib.hid hru; have HRV := Lib.hid hrv; have HLU := Lib.hid hul; have HLV := Lib.hid hvl
  have HO1 := Lib.hid ho1; have HO2 := Lib.hid ho2
  clear hcu hch hru hrv hul hvl ho1 ho2
  go_wp2_with fail
  have HB := Lib.hid (HNEW.out _ HF3.out); have HMR := Lib.hid HM3.out.rd
  exact bodyPost_ret (v := .tuple #[.slice ad2 M.length cap2, .slice a1 u.length c1, .slice a2 v.length c2]) (by simp [results, Try.results19, go_sem]) rfl ⟨ad2, cap2, M, a1, c1, u, a2, c2, v, rfl, ⟨HS.out, HLU.out, HLV.out⟩, HMR.out, HRU.out, HRV.out, by rw [HG.out]; exact HB.out⟩
set_option maxHeartbeats 1600000 in
set_option maxRecDepth 100000 in
theorem drawProved_c (ad : Option Addr) (len cap : Nat) (w : World) (hl : len ≤ 9223372036854775807) (hr : RdB w ad len) :
    Calls Try.prog 16 #[.slice ad len cap] w (MatAUV w) := by
  have HC := Lib.hid (cur_new (cap := cap) hr hl)
  clear hr
  go_enter Try.func16, Try.ntmps16
  go_wp2_with fail
  obtain ⟨wA, hwA⟩ : ∃ x, w.alloc (.cells #[.slice ad len cap, .int .i64 0, .int .u64 0] 62) = x := ⟨_, rfl⟩
  have hnew : ∀ w', Chg w.heap.size wA w' → Below w.heap.size w w' := fun w' h => by rw [← hwA] at h; exact chg_new h
  rw [hwA] at HC ⊢
  have HNEW := Lib.hid hnew; clear hnew hwA
  obtain ⟨g, hg⟩ : ∃ g, w.heap.size = g := ⟨_, rfl⟩
  rw [hg] at HC HNEW ⊢
  have HG := Lib.hid hg
  have hcl := HC.out.lt
  clear hg
  refine (costTable_c g 0 wA HC.out (by omega)).mono ?_
  rintro e w2 ⟨ad2, cap2, M, vs, rfl, hsm, hmat, hcu, hch⟩
  have hz2 := hch.size
  have HS := Lib.hid (show sm7 M from hsm); have HM := Lib.hid hmat; have HU := Lib.hid hcu; have HF := Lib.hid hch
  clear hsm hmat hcu hch
  go_wp2_with fail
  refine (prices_c ad2 cap2 M g (0 + 1100) w2 HM.out.rd (sm7_smM HS.out) HS.out.1 HU.out (by omega)).mono ?_
  rintro e w3 ⟨a1, a2, c1, c2, u, v, rfl, hru, hrv, ⟨ho1, ho2⟩, hul, hvl, hcu, hch⟩
  have HM3 := Lib.hid (HM.out.chg hch hcl)
  have HU3 := Lib.hid hcu; have HF3 := Lib.hid (HF.out.trans hch)
  have HRU := Lib.hid hru; have HRV := Lib.hid hrv; have HLU := Lib.hid hul; have HLV := Lib.hid hvl
  have HO1 := Lib.hid ho1; have HO2 := Lib.hid ho2
  clear hcu hch hru hrv hul hvl ho1 ho2
  go_wp2_with fail
  refine (assignment_c ad2 cap2 M g (0 + 1100 + 200) w3 HM3.out.rd (sm7_smM HS.out) HS.out.1 HU3.out (by omega)).mono ?_
  rintro e w4 ⟨aa, ca, a, rfl, hra, hcp, hal, hcu, hch⟩
  have HM4 := Lib.hid (HM3.out.chg hch hcl).rd
  have HB := Lib.hid (HNEW.out _ (HF3.out.trans hch))
  have HRU4 := Lib.hid (HRU.out.chgO hch HO1.out (Nat.lt_of_lt_of_le hcl hz2)); have HRV4 := Lib.hid (HRV.out.chgO hch HO2.out (Nat.lt_of_lt_of_le hcl hz2))
  have HRA := Lib.hid hra; have HAL := Lib.hid (And.intro hcp hal)
  clear hcu hch hra hcp hal
  go_wp2_with fail
  exact bodyPost_ret (v := .tuple #[.slice ad2 M.length cap2, .slice aa a.length ca, .slice a1 u.length c1, .slice a2 v.length c2]) (by simp [results, Try.results16, go_sem]) rfl ⟨ad2, cap2, M, aa, ca, a, a1, c1, u, a2, c2, v, rfl, ⟨HS.out, HAL.out, HLU.out, HLV.out⟩, HM4.out, HRA.out, HRU4.out, HRV4.out, by rw [HG.out]; exact HB.out⟩
end Go.Proofs.Ytjlkgioinogbkaa
