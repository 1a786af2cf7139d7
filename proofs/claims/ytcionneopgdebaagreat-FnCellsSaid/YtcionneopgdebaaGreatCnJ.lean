/-
  DrawCellPolygon. By an AI agent.
-/
import Derived.Test.YtcionneopgdebaaGreatCnG
import Derived.Test.YtcionneopgdebaaGreatCsV
namespace Go.Proofs.YtcionneopgdebaaGreat
open Go.RowKit

def DrwCp (w : World) (e : Ending) (w' : World) : Prop := ∃ ad1 cap1 l x, e = .returned (.tuple #[.slice ad1 (List.length l) cap1, .int .i64 x]) ∧ List.length l ≤ 13 ∧ RdT w' ad1 l ∧ Below w.heap.size w w'

set_option maxHeartbeats 6400000 in
set_option maxRecDepth 100000 in
theorem drawCellPolygon_c (ad : Option Addr) (len cap : Nat) (w : World) (hl : len ≤ 9223372036854775807) (hr : RdB w ad len) :
    Calls Tryz.prog 23 #[.slice ad len cap] w (DrwCp w) := by
  have hc := cur_new (cap := cap) hr hl
  have hb1 : Below w.heap.size w (w.alloc (.cells #[.slice ad len cap, .int .i64 0, .int .u64 0] 49)) := (Below.refl _ _).alloc (Nat.le_refl _) _
  have hs1 : (w.alloc (.cells #[.slice ad len cap, .int .i64 0, .int .u64 0] 49)).heap.size = w.heap.size + 1 := by simp
  clear hr hl
  obtain ⟨c, hcd⟩ : ∃ c, w.heap.size = c := ⟨_, rfl⟩
  rw [hcd] at hc hs1
  have hwc : w.heap.size ≤ c := by omega
  have HC := Lib.hid hc; have HB := Lib.hid hb1; clear hc hb1
  go_enter Tryz.func23, Tryz.ntmps23
  go_wp2_with fail
  refine (anyPlane_c c 0 _ HC.out (by omega)).mono ?_
  rintro e w1 ⟨v, l, rfl, hrow, hll, hcu, hch⟩
  have hll : l.length ≤ 13 := hll
  rw [hs1] at hrow
  obtain ⟨ad1, cap1, rfl, hcap1, _⟩ := hrow.shape
  have B1 := Lib.hid (bchg HB.out hch hwc HB.out.size)
  have R1 := Lib.hid hrow
  have U1 := Lib.hid hcu
  have CG := plGood_c ad1 cap1 l w1 (RowT.rd hrow) (by omega)
  obtain ⟨nl, hnl⟩ : ∃ z, l.length = z := ⟨_, rfl⟩
  have HNL := Lib.hid hnl
  rw [hnl] at CG hll ⊢
  obtain ⟨PB, hPB⟩ : ∃ z, planeB l = z := ⟨_, rfl⟩
  rw [hPB] at CG
  have CG := Lib.hid CG
  clear hcu hch HC HB hrow hs1 hnl
  go_wp2_with fail
  refine CG.out.mono ?_
  rintro e w2 ⟨rfl, hb2⟩
  have hcl1 := U1.out.lt
  have B2 := Lib.hid (ball B1.out hb2)
  have R2 := Lib.hid (RowT.below R1.out hb2)
  have U2 := Lib.hid (U1.out.below hb2)
  clear hb2 R1 B1 U1 CG
  cases PB
  case false =>
    clear hPB
    go_wp2_with fail
    refine (pick_c 2 c (0 + 200) w2 U2.out (by omega)).mono ?_
    rintro e wp ⟨p1, rfl, -, hcu, hch⟩
    have Bp := Lib.hid (bchg B2.out hch hwc B2.out.size)
    have Rp := Lib.hid (show RowT wp _ _ l from row_chg R2.out hch (by omega))
    have Up := Lib.hid hcu
    clear hcu hch
    go_wp2_with fail
    refine (pick_c 2 c (0 + 200 + 2) wp Up.out (by omega)).mono ?_
    rintro e wq ⟨p2, rfl, -, hcu, hch⟩
    have Bq := Lib.hid (bchg Bp.out hch hwc Bp.out.size)
    have Rq := Lib.hid (show RowT wq _ _ l from row_chg Rp.out hch (by omega))
    have Uq := Lib.hid hcu
    clear hcu hch Bp Rp Up
    go_wp2_with fail
    obtain ⟨WA, hWA⟩ : ∃ u, u = wq.alloc (.cells #[.int .i64 0, .int .i64 p1, .int .i64 p2, .int .i64 0, .int .i64 1, .int .i64 (-1)] 3) := ⟨_, rfl⟩
    have hbA : Below wq.heap.size wq WA := by rw [hWA]; exact bal_alloc (Below.refl _ _)
    have hOA : Own WA wq.heap.size 3 (ints [0, p1, p2, 0, 1, (-1)]) := by rw [hWA]; exact Own.new wq [.int .i64 0, .int .i64 p1, .int .i64 p2, .int .i64 0, .int .i64 1, .int .i64 (-1)] 3
    have UA := Lib.hid (Uq.out.below hbA)
    have BA := Lib.hid (ball Bq.out hbA)
    have RA := Lib.hid (RowT.below Rq.out hbA)
    have hcA := Uq.out.lt
    rw [← hWA]
    clear hWA hbA
    refine (among_c wq.heap.size 6 [0, p1, p2, 0, 1, (-1)] c (0 + 200 + 2 + 2) WA UA.out (by omega) (by simp) (by simp) (by omega) hOA).mono ?_
    rintro e WB ⟨x, rfl, -, hcu, hch⟩
    have BB := Lib.hid (bchg BA.out hch hwc BA.out.size)
    have RB := Lib.hid (RowT.rd (show RowT WB _ _ l from row_chg RA.out hch (by omega)))
    clear hcu hch UA BA RA hOA
    go_wp2_with fail
    exact bodyPost_ret (v := .tuple #[.slice ad1 nl cap1, .int .i64 x]) (by simp [results, Tryz.results23, go_sem]) rfl ⟨ad1, cap1, l, x, by rw [HNL.out], by rw [HNL.out]; exact hll, RB.out, BB.out⟩
  case true =>
    obtain ⟨h0, h12, hp⟩ := planeB_t hPB
    have hrd := RowT.rd R2.out
    obtain ⟨bl, ol, rfl, _⟩ := hrd 0 h0
    have CE := ceOf_c bl ol cap1 l w2 (by simpa using hrd) hp h12 h0
    have hcl := celA_len l h12
    rw [HNL.out] at CE h12
    generalize celA l = E at CE hcl
    obtain ⟨m, hm⟩ : ∃ z, E.length = z := ⟨_, rfl⟩
    unfold PutR at CE
    rw [hm] at CE hcl
    have CE := Lib.hid CE
    have e1 : IntKind.i64.wrap ((m : Int) + 1) = (m : Int) + 1 := i64_small (by omega) (by omega)
    have e2 : IntKind.i64.wrap ((m : Int) - 1) = (m : Int) - 1 := i64_small (by omega) (by omega)
    clear hPB h0 hp hrd hm
    go_wp2_with fail
    refine CE.out.mono ?_
    rintro e w3 ⟨adE, capE, vsE, rfl, hmE, hb3⟩
    have B3 := Lib.hid (ball B2.out hb3)
    have R3 := Lib.hid (RowT.below R2.out hb3)
    have U3 := Lib.hid (U2.out.below hb3)
    clear hb3 R2 B2 U2 CE hmE
    go_wp2_with fail
    refine (pick_c ((m : Int) + 1) c (0 + 200) w3 U3.out (by omega)).mono ?_
    rintro e wp ⟨p1, rfl, -, hcu, hch⟩
    have Bp := Lib.hid (bchg B3.out hch hwc B3.out.size)
    have Rp := Lib.hid (show RowT wp _ _ l from row_chg R3.out hch (by omega))
    have Up := Lib.hid hcu
    clear hcu hch
    go_wp2_with fail
    refine (pick_c ((m : Int) + 1) c (0 + 200 + 2) wp Up.out (by omega)).mono ?_
    rintro e wq ⟨p2, rfl, -, hcu, hch⟩
    have Bq := Lib.hid (bchg Bp.out hch hwc Bp.out.size)
    have Rq := Lib.hid (show RowT wq _ _ l from row_chg Rp.out hch (by omega))
    have Uq := Lib.hid hcu
    clear hcu hch Bp Rp Up
    go_wp2_with fail
    obtain ⟨WA, hWA⟩ : ∃ u, u = wq.alloc (.cells #[.int .i64 0, .int .i64 p1, .int .i64 p2, .int .i64 ((m : Int) - 1), .int .i64 (m : Int), .int .i64 (-1)] 3) := ⟨_, rfl⟩
    have hbA : Below wq.heap.size wq WA := by rw [hWA]; exact bal_alloc (Below.refl _ _)
    have hOA : Own WA wq.heap.size 3 (ints [0, p1, p2, ((m : Int) - 1), (m : Int), (-1)]) := by rw [hWA]; exact Own.new wq [.int .i64 0, .int .i64 p1, .int .i64 p2, .int .i64 ((m : Int) - 1), .int .i64 (m : Int), .int .i64 (-1)] 3
    have UA := Lib.hid (Uq.out.below hbA)
    have BA := Lib.hid (ball Bq.out hbA)
    have RA := Lib.hid (RowT.below Rq.out hbA)
    have hcA := Uq.out.lt
    rw [← hWA]
    clear hWA hbA
    refine (among_c wq.heap.size 6 [0, p1, p2, ((m : Int) - 1), (m : Int), (-1)] c (0 + 200 + 2 + 2) WA UA.out (by omega) (by simp) (by simp) (by omega) hOA).mono ?_
    rintro e WB ⟨x, rfl, -, hcu, hch⟩
    have BB := Lib.hid (bchg BA.out hch hwc BA.out.size)
    have RB := Lib.hid (RowT.rd (show RowT WB _ _ l from row_chg RA.out hch (by omega)))
    clear hcu hch UA BA RA hOA
    go_wp2_with fail
    exact bodyPost_ret (v := .tuple #[.slice (some ⟨bl, ol, none⟩) nl cap1, .int .i64 x]) (by simp [results, Tryz.results23, go_sem]) rfl ⟨some ⟨bl, ol, none⟩, cap1, l, x, by rw [HNL.out], by rw [HNL.out]; exact hll, RB.out, BB.out⟩
end Go.Proofs.YtcionneopgdebaaGreat
