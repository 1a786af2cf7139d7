/-
  The draws of games from bytes. Printed by gen_draw23.py.
-/
import Derived.Test.YtmhmdbmiimpbnaaDrawJ
namespace Go.Proofs.Ytmhmdbmiimpbnaa
open Go.RowKit

def WinDr (w : World) (e : Ending) (w' : World) : Prop := ∃ (m : Int) (adl : Option Addr) (capl : Nat) (ls : List Lk) (u : Value) (d : List Int), e = .returned (.tuple #[.int .i64 m, .slice adl ls.length capl, u]) ∧ ChipsP m ls d ∧ RdL w' adl ls ∧ RdV w' u d ∧ Below w.heap.size w w'
def RedDr (w : World) (e : Ending) (w' : World) : Prop := ∃ (m : Int) (adl : Option Addr) (capl : Nat) (ls : List Lk) (u : Value) (d : List Int) (q : Int), e = .returned (.tuple #[.int .i64 m, .slice adl ls.length capl, u, .int .i64 q]) ∧ ChipsP m ls d ∧ RdL w' adl ls ∧ RdV w' u d ∧ Below w.heap.size w w'
def EqvDr (w : World) (e : Ending) (w' : World) : Prop := ∃ (m : Int) (adl : Option Addr) (capl : Nat) (ls : List Lk) (u : Value) (d : List Int) (u2 : Value) (d2 : List Int), e = .returned (.tuple #[.int .i64 m, .slice adl ls.length capl, u, u2]) ∧ ChipsP m ls d ∧ d2.length ≤ 11 ∧ RdL w' adl ls ∧ RdV w' u d ∧ RdV w' u2 d2 ∧ Below w.heap.size w w'

set_option maxHeartbeats 1600000 in
set_option maxRecDepth 100000 in
theorem drawIsWinnable_c (ad : Option Addr) (len cap : Nat) (w : World) (hl : len ≤ 9223372036854775807) (hr : RdB w ad len) :
    Calls Try.prog 26 #[.slice ad len cap] w (WinDr w) := by
  have HC := Lib.hid (cur_new (cap := cap) hr hl)
  clear hr
  go_enter Try.func26, Try.ntmps26
  go_wp2_with fail
  refine (linked_c w.heap.size 0 _ HC.out (by omega)).mono ?_
  rintro e w1 ⟨m, v, ls, u, d, rfl, hp, hrowl, hrow, hcu, hch⟩
  obtain ⟨adl, capl, rfl, hrl⟩ := hrowl.rd
  have HV := Lib.hid (RowI.rdV hrow)
  have HL := Lib.hid hrl
  have HP := Lib.hid hp
  clear hp hrl hrow hrowl hcu
  go_wp2_with fail
  go_ret3
  exact ⟨m, adl, capl, ls, u, d, rfl, HP.out, HL.out, HV.out, chg_new hch⟩
  
set_option maxHeartbeats 1600000 in
set_option maxRecDepth 100000 in
theorem drawReduceChips_c (ad : Option Addr) (len cap : Nat) (w : World) (hl : len ≤ 9223372036854775807) (hr : RdB w ad len) :
    Calls Try.prog 39 #[.slice ad len cap] w (RedDr w) := by
  have HC := Lib.hid (cur_new (cap := cap) hr hl)
  clear hr
  go_enter Try.func39, Try.ntmps39
  go_wp2_with fail
  refine (linked_c w.heap.size 0 _ HC.out (by omega)).mono ?_
  rintro e w1 ⟨m, v, ls, u, d, rfl, hp, hrowl, hrow, hcu, hch⟩
  obtain ⟨adl, capl, rfl, _⟩ := hrowl.rd
  have hm1 := hp.1
  have hm2 := hp.2.1
  have HP := Lib.hid hp
  have HU := Lib.hid hcu
  have HRL := Lib.hid hrowl
  have HRI := Lib.hid hrow
  have hz := hch.size
  rw [World.size_alloc] at hz
  clear hp hrow hrowl hcu
  go_wp2_with fail
  refine (vertexOf_c m w.heap.size _ w1 HU.out (by omega) hm1 hm2).mono ?_
  rintro e w2 ⟨q, rfl, hcu, hch2⟩
  clear hcu
  go_wp2_with fail
  refine bodyPost_ret (v := .tuple #[.int .i64 m, .slice adl ls.length capl, u, .int .i64 q]) (by simp [results, Try.results39, go_sem]) rfl ?_
  exact ⟨m, adl, capl, ls, u, d, q, rfl, HP.out, RowL.rdc (row_chg HRL.out hch2 (by simp)), RowI.rdV (row_chg HRI.out hch2 (by simp)), chg_new (hch.trans hch2)⟩
  
set_option maxHeartbeats 1600000 in
set_option maxRecDepth 100000 in
theorem drawLackingAt_c (ad : Option Addr) (len cap : Nat) (w : World) (hl : len ≤ 9223372036854775807) (hr : RdB w ad len) :
    Calls Try.prog 37 #[.slice ad len cap] w (RedDr w) := by
  go_enter Try.func37, Try.ntmps37
  go_wp2_with fail
  refine (drawReduceChips_c ad len cap w hl hr).mono ?_
  rintro e w1 ⟨m, adl, capl, ls, u, d, q, rfl, hp, hrl, hrv, hb⟩
  have HP := Lib.hid hp; clear hp
  have HL := Lib.hid hrl; clear hrl
  have HV := Lib.hid hrv; clear hrv
  go_wp2_with fail
  refine bodyPost_ret (v := .tuple #[.int .i64 m, .slice adl ls.length capl, u, .int .i64 q]) (by simp [results, Try.results37, go_sem]) rfl ?_
  exact ⟨m, adl, capl, ls, u, d, q, rfl, HP.out, HL.out, HV.out, hb⟩
  
set_option maxHeartbeats 1600000 in
set_option maxRecDepth 100000 in
theorem drawBurntBy_c (ad : Option Addr) (len cap : Nat) (w : World) (hl : len ≤ 9223372036854775807) (hr : RdB w ad len) :
    Calls Try.prog 96 #[.slice ad len cap] w (RedDr w) := by
  have HC := Lib.hid (cur_new (cap := cap) hr hl)
  clear hr
  go_enter Try.func96, Try.ntmps96
  go_wp2_with fail
  refine (paid_c w.heap.size 0 _ HC.out (by omega)).mono ?_
  rintro e w1 ⟨m, adl, capl, ls, u, d, q, rfl, hp, hrl, hrv, hcu, hch⟩
  have HP := Lib.hid hp; clear hp
  have HL := Lib.hid hrl; clear hrl
  have HV := Lib.hid hrv; clear hrv
  clear hcu
  go_wp2_with fail
  refine bodyPost_ret (v := .tuple #[.int .i64 m, .slice adl ls.length capl, u, .int .i64 q]) (by simp [results, Try.results96, go_sem]) rfl ?_
  exact ⟨m, adl, capl, ls, u, d, q, rfl, HP.out, HL.out, HV.out, chg_new hch⟩
  
set_option maxHeartbeats 1600000 in
set_option maxRecDepth 100000 in
theorem drawIsReduced_c (ad : Option Addr) (len cap : Nat) (w : World) (hl : len ≤ 9223372036854775807) (hr : RdB w ad len) :
    Calls Try.prog 46 #[.slice ad len cap] w (RedDr w) := by
  go_enter Try.func46, Try.ntmps46
  go_wp2_with fail
  refine (drawBurntBy_c ad len cap w hl hr).mono ?_
  rintro e w1 ⟨m, adl, capl, ls, u, d, q, rfl, hp, hrl, hrv, hb⟩
  have HP := Lib.hid hp; clear hp
  have HL := Lib.hid hrl; clear hrl
  have HV := Lib.hid hrv; clear hrv
  go_wp2_with fail
  refine bodyPost_ret (v := .tuple #[.int .i64 m, .slice adl ls.length capl, u, .int .i64 q]) (by simp [results, Try.results46, go_sem]) rfl ?_
  exact ⟨m, adl, capl, ls, u, d, q, rfl, HP.out, HL.out, HV.out, hb⟩
  
set_option maxHeartbeats 1600000 in
set_option maxRecDepth 100000 in
theorem drawAreEquivalent_c (ad : Option Addr) (len cap : Nat) (w : World) (hl : len ≤ 9223372036854775807) (hr : RdB w ad len) :
    Calls Try.prog 34 #[.slice ad len cap] w (EqvDr w) := by
  have HC := Lib.hid (cur_new (cap := cap) hr hl)
  clear hr
  go_enter Try.func34, Try.ntmps34
  go_wp2_with fail
  refine (linked_c w.heap.size 0 _ HC.out (by omega)).mono ?_
  rintro e w1 ⟨m, v, ls, u, d, rfl, ⟨hm1, hm2, hls, hdl, hsm⟩, hrowl, hrow, hcu, hch⟩
  obtain ⟨adl, capl, rfl, _⟩ := hrowl.shape
  obtain ⟨add, capd, rfl, hsh⟩ := hrow.shape
  have HSH := Lib.hid hsh; clear hsh
  have HSM := Lib.hid hsm; clear hsm
  have HU := Lib.hid hcu; clear hcu
  have HF := Lib.hid (chg_new hch)
  have hz := hch.size
  rw [World.size_alloc] at hz
  clear hch
  have HL := Lib.hid (RowL.rdc hrowl)
  have HRL := Lib.hid (hrowl.mono (B' := w.heap.size + 1) (by simp)); clear hrowl
  have HRI := Lib.hid (hrow.mono (B' := w.heap.size + 1) (by simp)); clear hrow
  have hask := fun w hr => rdAsked_any m adl capl ls add capd d 0 w (by omega) hr (by omega)
  generalize hak : askB m ls d 0 = ak at hask
  have HAK := Lib.hid hak; clear hak
  have HASK := Lib.hid hask; clear hask
  go_wp2_with fail
  refine (HASK.out _ HL.out (RowI.rdc HRI.out)).mono ?_
  rintro e w2 ⟨rfl, hb2⟩
  have HU2 := Lib.hid (HU.out.below hb2)
  have HF2 := Lib.hid (Chg.of_below (b := w.heap.size) hb2)
  have hz2 := hb2.size
  cases ak
  case false =>
    go_wp2_with fail
    refine (linked_c w.heap.size _ w2 HU2.out (by omega)).mono ?_
    rintro e wz ⟨m2, v2, ls2, u2, d2, rfl, ⟨_, _, _, hdl2, _⟩, _, hrow2, hcu2, hchz⟩
    have HV2 := Lib.hid (RowI.rdV hrow2)
    clear hrow2 hcu2
    have HFZ := Lib.hid (HF2.out.trans hchz); clear hchz
    go_wp2_with fail
    refine bodyPost_ret (v := .tuple #[.int .i64 m, .slice adl ls.length capl, .slice add d.length capd, u2]) (by simp [results, Try.results34, go_sem]) rfl ?_
    exact ⟨m, adl, capl, ls, _, d, _, d2, rfl, ⟨by omega, by omega, by omega, by omega, HSM.out⟩, hdl2, RowL.rdc (row_chg HRL.out HFZ.out (by omega)), RowI.rdV (row_chg HRI.out HFZ.out (by omega)), HV2.out, bchg HF.out HFZ.out (Nat.le_refl _) (by omega)⟩
  case true =>
    go_wp2_with fail
    refine (one_c 4 w.heap.size (0 + 2100) w2 HU2.out (by omega)).mono ?_
    rintro e w2 ⟨b1, rfl, hcu, hch⟩
    have HU3 := Lib.hid hcu; clear hcu
    have HF4 := Lib.hid (HF2.out.trans hch)
    clear hch
    have hz5 := HF4.out.size
    cases b1
    case true =>
      go_wp2_with fail
      refine (linked_c w.heap.size _ w2 HU3.out (by omega)).mono ?_
      rintro e wz ⟨m2, v2, ls2, u2, d2, rfl, ⟨_, _, _, hdl2, _⟩, _, hrow2, hcu2, hchz⟩
      have HV2 := Lib.hid (RowI.rdV hrow2)
      clear hrow2 hcu2
      have HFZ := Lib.hid (HF4.out.trans hchz); clear hchz
      go_wp2_with fail
      refine bodyPost_ret (v := .tuple #[.int .i64 m, .slice adl ls.length capl, .slice add d.length capd, u2]) (by simp [results, Try.results34, go_sem]) rfl ?_
      exact ⟨m, adl, capl, ls, _, d, _, d2, rfl, ⟨by omega, by omega, by omega, by omega, HSM.out⟩, hdl2, RowL.rdc (row_chg HRL.out HFZ.out (by omega)), RowI.rdV (row_chg HRI.out HFZ.out (by omega)), HV2.out, bchg HF.out HFZ.out (Nat.le_refl _) (by omega)⟩
    case false =>
      obtain ⟨hgm, hq0, hq1⟩ := askB_t HAK.out
      obtain ⟨hg, hc, hdN, hda⟩ := gameB_t hgm
      obtain ⟨hn1, hn2⟩ := good_n hg
      obtain ⟨N, rfl⟩ : ∃ N : Nat, m = N := ⟨m.toNat, by omega⟩
      obtain ⟨gd, rfl, hgd⟩ := HSH.out (by omega)
      have HG := Lib.hid hg
      clear hgm hg hc hda hq0 hq1
      go_wp2_with fail
      refine (pick_c N w.heap.size ((0 + 2100) + 2) w2 HU3.out (by omega)).mono ?_
      rintro e w7 ⟨x6, rfl, hp8, hcu, hch⟩
      have HU9 := Lib.hid hcu; clear hcu
      have HF10 := Lib.hid (HF4.out.trans hch)
      clear hch
      have hz11 := HF10.out.size
      obtain ⟨k, rfl⟩ : ∃ k : Nat, x6 = k := ⟨x6.toNat, by omega⟩
      have hk : k < N := by omega
      clear hp8
      have hset := chSet_any N ⟨w7.heap.size, 0, none⟩ 1 [(k : Int)] (w7.alloc (.cells #[.int .i64 k] 3)) (by omega) (by simp) (Own.newA w7 _ 3 (cs := ints [(k : Int)]) rfl).rd (fun j hj => by
        have : j = 0 := by simpa using hj
        subst this
        simp
        omega)
      have HSET := Lib.hid hset; clear hset
      have hba := (Below.refl w7.heap.size w7).alloc (Nat.le_refl _) (.cells #[.int .i64 k] 3)
      go_wp2_with fail
      refine HSET.out.mono ?_
      rintro e wb ⟨gm, rfl, hgm, hom, hbb⟩
      have hb0b := ball hba hbb
      have HOM := Lib.hid hom; clear hom
      have HU12 := Lib.hid (HU9.out.below hb0b)
      have HF13 := Lib.hid (HF10.out.trans (Chg.of_below hb0b))
      have hz14 := HF13.out.size
      have HRLb := Lib.hid (row_chg HRL.out HF13.out (by omega))
      have HRIb := Lib.hid (row_chg HRI.out HF13.out (by omega))
      have hfire := chFire_any (N : Int) adl capl ls ⟨gd, 0, none⟩ capd d ⟨gm, 0, none⟩ N (tab N (setF [(k : Int)])) wb (by omega) (RowL.rdc HRLb.out) HG.out (by rw [Int.toNat_natCast]; omega) (by rw [tab_length]; simp) (RowI.rdc HRIb.out) HOM.out.rd (fun j hj => by
        rw [Int.toNat_natCast] at hj
        have := HSM.out.take (k := j) (by omega)
        omega) (fun u hu => setList_bounds N [(k : Int)] u (by simpa using hu))
      rw [Int.toNat_natCast] at hfire
      have hdN2 : d.length = N := by omega
      have HDN := Lib.hid hdN2
      rw [← hdN2] at hfire ⊢
      obtain ⟨zs, hzs⟩ : ∃ zs : List Int, zs = tab d.length (fun j => d.getD j 0 - accF (fun u => (tab d.length (setF [(k : Int)])).getD u 0) (lapF ls) d.length j) := ⟨_, rfl⟩
      rw [← hzs] at hfire
      have hzl : zs.length = d.length := by rw [hzs, tab_length]
      have HZL := Lib.hid hzl; clear hzl hzs
      have HFIRE := Lib.hid hfire; clear hfire hdN hdN2
      go_wp2_with fail
      refine HFIRE.out.mono ?_
      rintro e wf ⟨vv, rfl, hv, hbf⟩
      obtain ⟨gf, capf, rfl, hgf, hof⟩ := hv.shape (by rw [HZL.out]; have := HDN.out; omega)
      rw [HZL.out]
      have HOF := Lib.hid hof; clear hof hv
      have HU15 := Lib.hid (HU12.out.below hbf)
      have HF16 := Lib.hid (HF13.out.trans (Chg.of_below hbf))
      have hz17 := HF16.out.size
      have HF18 := Lib.hid (Chg.refl w.heap.size wf)
      go_wp2_with fail
      refine (one_c 4 w.heap.size ((0 + 2100) + 4) wf HU15.out (by omega)).mono ?_
      rintro e w20 ⟨b19, rfl, hcu, hch⟩
      have HU21 := Lib.hid hcu; clear hcu
      have HF22 := Lib.hid (HF16.out.trans hch)
      have HF23 := Lib.hid (HF18.out.trans hch)
      clear hch
      have hz24 := HF22.out.size
      have hz25 := HF23.out.size
      have HOF2 := Lib.hid (HOF.out.chg HF23.out (by omega))
      cases b19
      case false =>
        go_wp2_with fail
        refine bodyPost_ret (v := .tuple #[.int .i64 d.length, .slice adl ls.length capl, .slice (some ⟨gd, 0, none⟩) d.length capd, .slice (some ⟨gf, 0, none⟩) d.length capf]) (by simp [results, Try.results34, go_sem]) rfl ?_
        exact ⟨_, adl, capl, ls, _, d, _, zs, rfl, ⟨by have := HDN.out; omega, by have := HDN.out; omega, by omega, by omega, HSM.out⟩, by have := HDN.out; have := HZL.out; simp; omega, RowL.rdc (row_chg HRL.out HF22.out (by omega)), RowI.rdV (row_chg HRI.out HF22.out (by omega)), ⟨_, capf, by simp [HZL.out], HOF2.out.rd⟩, bchg HF.out HF22.out (Nat.le_refl _) (by omega)⟩
      case true =>
        go_wp2_with fail
        refine (pick_c d.length w.heap.size ((0 + 2100) + 6) w20 HU21.out (by omega)).mono ?_
        rintro e w27 ⟨x26, rfl, hp28, hcu, hch⟩
        have HU29 := Lib.hid hcu; clear hcu
        have HF30 := Lib.hid (HF22.out.trans hch)
        have HF31 := Lib.hid (HF23.out.trans hch)
        clear hch
        have hz32 := HF30.out.size
        have hz33 := HF31.out.size
        obtain ⟨j, rfl⟩ : ∃ j : Nat, x26 = j := ⟨x26.toNat, by omega⟩
        have hj : j < d.length := by have := HDN.out; omega
        clear hp28
        have HOF3 := Lib.hid (HOF.out.chg HF31.out (by omega))
        have cj := HOF3.out.cell? (i := j) (ints_get (by have := HZL.out; omega))
        have fj := HOF3.out.frozen j
        have hst := Lib.hid (fun x => ((HOF3.out.set j (.int .i64 x)).congr (ints_set zs j x)).rd)
        generalize zs.getD j 0 = y0 at cj
        have hb := (Below.refl w1.heap.size w27).setCell (p := ⟨gf, j, none⟩) (show w1.heap.size ≤ gf by omega) (.int .i64 (IntKind.i64.wrap (y0 + 1)))
        have hb' : ∀ x, Below w1.heap.size w27 (World.setCell w27 ⟨gf, j, none⟩ (.int .i64 x)) := fun x => (Below.refl w1.heap.size w27).setCell (p := ⟨gf, j, none⟩) (show w1.heap.size ≤ gf by omega) _
        go_wp2_with fail
        refine bodyPost_ret (v := .tuple #[.int .i64 d.length, .slice adl ls.length capl, .slice (some ⟨gd, 0, none⟩) d.length capd, .slice (some ⟨gf, 0, none⟩) d.length capf]) (by simp [results, Try.results34, go_sem]) rfl ?_
        exact ⟨_, adl, capl, ls, _, d, _, zs.set j _, rfl, ⟨by have := HDN.out; omega, by have := HDN.out; omega, by omega, by omega, HSM.out⟩, by have := HDN.out; have := HZL.out; simp; omega, RowL.rdc (row_chg HRL.out (HF30.out.under (hb' _) (Nat.le_refl _) (by simp [World.setCell])) (by omega)), RowI.rdV (row_chg HRI.out (HF30.out.under (hb' _) (Nat.le_refl _) (by simp [World.setCell])) (by omega)), ⟨_, capf, by simp [HZL.out], hst.out _⟩, bchg HF.out (HF30.out.under (hb' _) (Nat.le_refl _) (by simp [World.setCell])) (Nat.le_refl _) (by omega)⟩

end Go.Proofs.Ytmhmdbmiimpbnaa
