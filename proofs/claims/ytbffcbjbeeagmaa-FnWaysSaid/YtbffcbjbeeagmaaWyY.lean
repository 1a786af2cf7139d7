/-
  What the draws of steps, potentials and ways give. By an AI agent.
-/
import Derived.Test.YtbffcbjbeeagmaaWyX
import Derived.Test.YtbffcbjbeeagmaaOpenB
namespace Go.Proofs.Ytbffcbjbeeagmaa
open Go.RowKit

def sm7 (M : List (List Int)) : Prop := M.length ≤ 7 ∧ ∀ i, i < M.length → (M.getD i []).length ≤ 7
def MatR (w : World) (e : Ending) (w' : World) : Prop := ∃ ad cap M, e = .returned (.slice ad (List.length M) cap) ∧ sm7 M ∧ RdM w' ad M ∧ Below w.heap.size w w'
def MatPW (w : World) (e : Ending) (w' : World) : Prop := ∃ ad cap M ad2 cap2 p ad3 cap3 l, e = .returned (.tuple #[.slice ad (List.length M) cap, .slice ad2 (List.length p) cap2, .slice ad3 (List.length l) cap3]) ∧ (sm7 M ∧ p.length ≤ 21 ∧ l.length ≤ 21) ∧ RdM w' ad M ∧ RdI w' ad2 p ∧ RdI w' ad3 l ∧ Below w.heap.size w w'
def MatFM (w : World) (e : Ending) (w' : World) : Prop := ∃ ad cap M, ∃ f mo : Int, e = .returned (.tuple #[.slice ad (List.length M) cap, .int .i64 f, .int .i64 mo]) ∧ sm7 M ∧ RdM w' ad M ∧ Below w.heap.size w w'

set_option maxHeartbeats 1600000 in
set_option maxRecDepth 100000 in
theorem drawWayCosts_c (ad : Option Addr) (len cap : Nat) (w : World) (hl : len ≤ 9223372036854775807) (hr : RdB w ad len) :
    Calls Try.prog 62 #[.slice ad len cap] w (MatR w) := by
  have HC := Lib.hid (cur_new (cap := cap) hr hl)
  clear hr
  go_enter Try.func62, Try.ntmps62
  go_wp2_with fail
  obtain ⟨wA, hwA⟩ : ∃ x, w.alloc (.cells #[.slice ad len cap, .int .i64 0, .int .u64 0] 51) = x := ⟨_, rfl⟩
  have hnew : ∀ w', Chg w.heap.size wA w' → Below w.heap.size w w' := fun w' h => by rw [← hwA] at h; exact chg_new h
  rw [hwA] at HC ⊢
  have HNEW := Lib.hid hnew; clear hnew hwA
  refine (steps_c w.heap.size 0 wA HC.out (by omega)).mono ?_
  rintro e w2 ⟨ad2, cap2, M, vs, rfl, hsm, hmat, hcu, hch⟩
  have HS := Lib.hid (show sm7 M from hsm); have HM := Lib.hid hmat.rd; have HB := Lib.hid (HNEW.out _ hch)
  clear hsm hmat hcu hch
  go_wp2_with fail
  go_ret
  exact ⟨ad2, cap2, M, rfl, HS.out, HM.out, HB.out⟩
set_option maxHeartbeats 800000 in
theorem drawPotentialsFor_c (ad : Option Addr) (len cap : Nat) (w : World) (hl : len ≤ 9223372036854775807) (hr : RdB w ad len) :
    Calls Try.prog 19 #[.slice ad len cap] w (MatR w) := by
  have C := Lib.hid (drawWayCosts_c ad len cap w hl hr)
  clear hr
  go_enter Try.func19, Try.ntmps19
  go_wp2_with fail
  refine C.out.mono ?_
  rintro e w2 ⟨ad2, cap2, M, rfl, hsm, hmat, hb⟩
  have HS := Lib.hid hsm; have HM := Lib.hid hmat; have HB := Lib.hid hb
  clear hsm hmat hb
  go_wp2_with fail
  go_ret
  exact ⟨ad2, cap2, M, rfl, HS.out, HM.out, HB.out⟩
set_option maxHeartbeats 1600000 in
set_option maxRecDepth 100000 in
theorem drawIsProved_c (ad : Option Addr) (len cap : Nat) (w : World) (hl : len ≤ 9223372036854775807) (hr : RdB w ad len) :
    Calls Try.prog 27 #[.slice ad len cap] w (MatPW w) := by
  have HC := Lib.hid (cur_new (cap := cap) hr hl)
  clear hr
  go_enter Try.func27, Try.ntmps27
  go_wp2_with fail
  obtain ⟨wA, hwA⟩ : ∃ x, w.alloc (.cells #[.slice ad len cap, .int .i64 0, .int .u64 0] 51) = x := ⟨_, rfl⟩
  have hnew : ∀ w', Chg w.heap.size wA w' → Below w.heap.size w w' := fun w' h => by rw [← hwA] at h; exact chg_new h
  rw [hwA] at HC ⊢
  have HNEW := Lib.hid hnew; clear hnew hwA
  obtain ⟨g, hg⟩ : ∃ g, w.heap.size = g := ⟨_, rfl⟩
  rw [hg] at HC HNEW ⊢
  have HG := Lib.hid hg
  have hcl := HC.out.lt
  clear hg
  refine (steps_c g 0 wA HC.out (by omega)).mono ?_
  rintro e w2 ⟨ad2, cap2, M, vs, rfl, hsm, hmat, hcu, hch⟩
  have hz2 := hch.size
  have HS := Lib.hid (show sm7 M from hsm); have HM := Lib.hid hmat; have HU := Lib.hid hcu; have HF := Lib.hid hch
  clear hsm hmat hcu hch
  go_wp2_with fail
  refine (potentials_c ad2 cap2 M g (0 + 1000) w2 HU.out (by omega) HM.out.rd HS.out.1 HS.out.2).mono ?_
  rintro e w3 ⟨ad3, cap3, p, rfl, hpl, hrp, hap, hcu, hch⟩
  have HM3 := Lib.hid (HM.out.chg hch hcl)
  have HU3 := Lib.hid hcu; have HF3 := Lib.hid (HF.out.trans hch)
  have HP := Lib.hid hrp; have HPL := Lib.hid hpl
  have HAP := Lib.hid (fun a ha => Nat.lt_of_lt_of_le (Nat.lt_of_lt_of_le hcl hz2) (hap a ha))
  clear hpl hrp hap hcu hch
  go_wp2_with fail
  refine (wayIn_c ad2 cap2 M g (0 + 1000 + 100) w3 HU3.out (by omega) HM3.out.rd (fun u hu => (HM3.out.chg hu hcl).rd) HS.out.1 HS.out.2).mono ?_
  rintro e w4 ⟨ad4, cap4, l, rfl, hll, hrl, hch⟩
  have HM4 := Lib.hid (HM3.out.chg hch hcl).rd
  have HP4 := Lib.hid (HP.out.chgA hch HAP.out)
  have HL := Lib.hid hrl; have HLL := Lib.hid hll
  have HB := Lib.hid (HNEW.out _ (HF3.out.trans hch))
  clear hll hrl hch
  go_wp2_with fail
  exact bodyPost_ret (v := .tuple #[.slice ad2 M.length cap2, .slice ad3 p.length cap3, .slice ad4 l.length cap4]) (by simp [results, Try.results27, go_sem]) rfl ⟨ad2, cap2, M, ad3, cap3, p, ad4, cap4, l, rfl, ⟨HS.out, HPL.out, HLL.out⟩, HM4.out, HP4.out, HL.out, by rw [HG.out]; exact HB.out⟩
set_option maxHeartbeats 1600000 in
set_option maxRecDepth 100000 in
theorem drawWithin_c (ad : Option Addr) (len cap : Nat) (w : World) (hl : len ≤ 9223372036854775807) (hr : RdB w ad len) :
    Calls Try.prog 30 #[.slice ad len cap] w (MatFM w) := by
  have HC := Lib.hid (cur_new (cap := cap) hr hl)
  clear hr
  go_enter Try.func30, Try.ntmps30
  go_wp2_with fail
  obtain ⟨wA, hwA⟩ : ∃ x, w.alloc (.cells #[.slice ad len cap, .int .i64 0, .int .u64 0] 51) = x := ⟨_, rfl⟩
  have hnew : ∀ w', Chg w.heap.size wA w' → Below w.heap.size w w' := fun w' h => by rw [← hwA] at h; exact chg_new h
  rw [hwA] at HC ⊢
  have HNEW := Lib.hid hnew; clear hnew hwA
  obtain ⟨g, hg⟩ : ∃ g, w.heap.size = g := ⟨_, rfl⟩
  rw [hg] at HC HNEW ⊢
  have HG := Lib.hid hg
  have hcl := HC.out.lt
  clear hg
  refine (steps_c g 0 wA HC.out (by omega)).mono ?_
  rintro e w2 ⟨ad2, cap2, M, vs, rfl, hsm, hmat, hcu, hch⟩
  have hz2 := hch.size
  have HS := Lib.hid (show sm7 M from hsm); have HM := Lib.hid hmat; have HU := Lib.hid hcu; have HF := Lib.hid hch
  clear hsm hmat hcu hch
  go_wp2_with fail
  refine (vertex_c ad2 M.length cap2 HS.out.1 g (0 + 1000) w2 HU.out (by omega)).mono ?_
  rintro e w3 ⟨f, rfl, -, hcu, hch⟩
  have HM3 := Lib.hid (HM.out.chg hch hcl)
  have HU3 := Lib.hid hcu; have HF3 := Lib.hid (HF.out.trans hch)
  clear hcu hch
  go_wp2_with fail
  refine (place_c g (0 + 1000 + 8) w3 HU3.out (by omega)).mono ?_
  rintro e w4 ⟨mo, rfl, -, hcu, hch⟩
  have HM4 := Lib.hid (HM3.out.chg hch hcl).rd
  have HB := Lib.hid (HNEW.out _ (HF3.out.trans hch))
  clear hcu hch
  go_wp2_with fail
  exact bodyPost_ret (v := .tuple #[.slice ad2 M.length cap2, .int .i64 f, .int .i64 mo]) (by simp [results, Try.results30, go_sem]) rfl ⟨ad2, cap2, M, f, mo, rfl, HS.out, HM4.out, by rw [HG.out]; exact HB.out⟩
end Go.Proofs.Ytbffcbjbeeagmaa
