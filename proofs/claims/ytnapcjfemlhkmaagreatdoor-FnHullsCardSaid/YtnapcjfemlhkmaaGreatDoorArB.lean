/-
  Lists of points that the cursor draws. By an AI agent.
-/
import Derived.Test.YtnapcjfemlhkmaaGreatDoorArA
import Derived.Test.YtnapcjfemlhkmaaGreatDoorHalf
namespace Go.Proofs.YtnapcjfemlhkmaaGreatDoor
open Go.RowKit

theorem draw_appP {c m : Nat} {u w W wm : World} {o : Obj} (hbW : Below w.heap.size w W) (hU : Cur w c m) (hF : Chg c u w) (hc : c < u.heap.size) (hbm : Below u.heap.size (W.alloc o) wm) (hgr : W.heap.size < wm.heap.size) : Cur wm c m ∧ Chg c u wm := by
  have hs : u.heap.size ≤ W.heap.size := Nat.le_trans hF.size hbW.size
  have hb9 := ((Below.refl u.heap.size W).alloc hs o).trans hbm
  exact ⟨(hU.below hbW).under hb9 hc, (hF.trans (Chg.of_below hbW)).under hb9 (Nat.le_refl _) (by omega)⟩
def slenP (v : Value) : Nat := match v with
  | .slice _ n _ => n
  | _ => 0
/-- A list of points that is drawn. -/
def ListP (P : List Pt → Prop) (c n : Nat) (w : World) (e : Ending) (w' : World) : Prop := ∃ v l, e = .returned v ∧ RowP w' w.heap.size v l ∧ P l ∧ Cur w' c n ∧ Chg c w w'
def PsN (c n : Nat) (w : World) (s : Value) (wc : World) : Prop := ∃ N : Nat, s = .int .i64 N ∧ N ≤ 41 ∧ Cur wc c n ∧ Chg c w wc
def PsB (c n : Nat) (b0 : Prop) (w : World) (s : Value) (wc : World) : Prop := ∃ b : Bool, s = .bool b ∧ (b = true → b0) ∧ Cur wc c n ∧ Chg c w wc
def PsQ (c n k : Nat) (w : World) (v : Value) (xs : List Pt) (P : Pt → Prop) (wc : World) : Prop := ∃ x y : Int, PtO wc k ⟨x, y⟩ ∧ P ⟨x, y⟩ ∧ RowP wc w.heap.size v xs ∧ Cur wc c n ∧ Chg c w wc
theorem ptB_in {p : Pt} (h : ptB p = true) : (-100 ≤ p.x ∧ p.x ≤ 100) ∧ -100 ≤ p.y ∧ p.y ≤ 100 := by
  unfold ptB at h
  obtain ⟨h1, h2⟩ := Bool.and_eq_true_iff.1 h
  exact ⟨inB_t.1 h1, inB_t.1 h2⟩
theorem getD_mem {l : List Pt} {i : Nat} (h : i < l.length) : l.getD i default ∈ l := by
  rw [List.getD_eq_getElem?_getD, List.getElem?_eq_getElem h]; exact List.getElem_mem h
theorem small_ptB {p : Pt} (h : SmallP p) : ptB p = true := by
  unfold SmallP at h
  unfold ptB
  rw [inB_t.2 (by omega), inB_t.2 (by omega)]; rfl

set_option maxHeartbeats 6400000 in
set_option maxRecDepth 100000 in
theorem points_c (c n : Nat) (w : World) (h : Cur w c n) (hn : n ≤ 4611686018427330000) :
    Calls Tryz.prog 24 #[.pointer (some ⟨c, 0, none⟩)] w (ListP (fun l => l.length ≤ 41) c (n + 1000) w) := by
  have hcl := h.lt
  have H := Lib.hid h; clear h
  go_enter Tryz.func24, Tryz.ntmps24
  go_wp2_with fail
  refine (pick_c 7 c n w H.out (by omega)).mono ?_
  rintro e w1 ⟨x, rfl, hx, hcu, hch⟩
  obtain ⟨N0, hN⟩ : ∃ N : Nat, 1 + x = (N : Int) := ⟨(1 + x).toNat, by omega⟩
  have e1 : IntKind.i64.wrap (1 + x) = (N0 : Int) := by rw [i64_small (by omega) (by omega)]; exact hN
  have hN04 : 1 ≤ N0 ∧ N0 ≤ 7 := by omega
  have hz1 := hch.size
  have HU := Lib.hid hcu; have HF := Lib.hid hch
  clear hcu hch hx hN
  go_wp2_with fail
  refine (one_c 12 c (n + 2) w1 HU.out (by omega)).mono ?_
  rintro e w2 ⟨bb, rfl, hcu, hch⟩
  have hz2 := hch.size
  have HU2 := Lib.hid hcu; have HF2 := Lib.hid (HF.out.trans hch)
  clear hcu hch HU HF H
  go_upto_if 11 with fail
  go_cut [4] from 4 to 14 (fun s wc => PsN c (n + 6) w s wc)
  case first =>
    cases bb
    · go_wp2_with fail
      go_meet
      exact ⟨N0, rfl, by omega, HU2.out.mono (by omega), HF2.out⟩
    · go_wp2_with fail
      have HA := Lib.hid (HU2.out.below ((Below.refl _ _).alloc (Nat.le_refl _) (.cells #[.int .i64 0, .int .i64 40, .int .i64 41] 3)))
      have FA := Lib.hid (HF2.out.trans (Chg.alloc c w2 (.cells #[.int .i64 0, .int .i64 40, .int .i64 41] 3)))
      have hl12 := HU2.out.lt
      refine (among_c w2.heap.size 3 [0, 40, 41] c (n + 4) (w2.alloc (.cells #[.int .i64 0, .int .i64 40, .int .i64 41] 3)) HA.out (by omega) (by simp) (by simp) (by omega) (Own.newA w2 _ 3 rfl)).mono ?_
      rintro e w5 ⟨v, rfl, hv, hcu, hch⟩
      have HU5 := Lib.hid hcu; have HF5 := Lib.hid (FA.out.trans hch)
      obtain ⟨V, rfl, hV⟩ : ∃ V : Nat, v = (V : Int) ∧ V ≤ 41 := by
        simp at hv
        exact ⟨v.toNat, by omega, by omega⟩
      clear hcu hch hv
      go_wp2_with fail
      go_meet
      exact ⟨V, rfl, hV, HU5.out.mono (by omega), HF5.out⟩
  case rest =>
    obtain ⟨N, rfl, hN41, hcu, hch⟩ := hcut
    obtain ⟨w3, rfl⟩ : ∃ x : World, x = wc := ⟨_, rfl⟩
    have HU3 := Lib.hid hcu; have HF3 := Lib.hid hch
    have hz3 := hch.size
    clear hcu hch HU2 HF2 e1 hN04 hz1 hz2
    go_wp2_with fail
    go_loopw [3] (fun v wr => ∃ xs : List Pt, xs.length ≤ N ∧ (∀ p ∈ xs, ptB p = true) ∧ RowP wr w.heap.size v xs ∧ Cur wr c (n + 6 + 20 * xs.length) ∧ Chg c w wr) (fun v _ => N - slenP v)
    case atStart => exact ⟨[], by simp, by simp, RowP.nil _ _, HU3.out, HF3.out⟩
    case round =>
      obtain ⟨wE, rfl⟩ : ∃ x : World, x = wr := ⟨_, rfl⟩
      obtain ⟨xs, hxN, hall, hrow, hcu, hch⟩ := hrel
      obtain ⟨ad1, cap1, rfl, -⟩ := hrow.shape
      obtain ⟨L, hL⟩ : ∃ L, xs.length = L := ⟨_, rfl⟩
      rw [hL] at hrow hcu hxN ⊢
      have HXL := Lib.hid hL
      have HR := Lib.hid hrow; have HU := Lib.hid hcu; have HF := Lib.hid hch; have HALL := Lib.hid hall
      have hsz := hch.size
      clear hrow hcu hch hall hL
      by_cases hlt : L < N
      case pos =>
        have g1 : decide ((L : Int) < (N : Int)) = true := decide_eq_true (by omega)
        go_wp2_with fail
        refine (point_c c (n + 6 + 20 * L) wE HU.out (by omega)).mono ?_
        rintro e w4 ⟨px, py, rfl, hp, hcu, hch⟩
        have hsz4 := hch.size
        have pW := PtO.new w4 px py rfl
        have bW := (Below.refl w4.heap.size w4).alloc (Nat.le_refl _) (.cells #[.int .i64 px, .int .i64 py] 30)
        have HP := Lib.hid hp
        have H4 := Lib.hid (hcu.below bW); have F4 := Lib.hid ((HF.out.trans hch).trans (Chg.of_below bW))
        have R4 := Lib.hid (RowP.below (rowP_chg HR.out hch (by omega)) bW)
        have hkb := RowP.blk (rowP_chg HR.out hch (by omega))
        clear hp hcu hch HU HF HR
        go_upto_region 7 with fail
        obtain ⟨k, hk⟩ : ∃ k, w4.heap.size = k := ⟨_, rfl⟩
        rw [hk] at hkb
        have HKB := Lib.hid hkb; clear hkb
        have hwk : w.heap.size ≤ k := by omega
        have hkc : k ≠ c := by omega
        generalize hW : w4.alloc (.cells #[.int .i64 px, .int .i64 py] 30) = W at pW bW H4 F4 R4 ⊢
        clear hW bW hsz4
        rw [hk] at pW ⊢
        clear hk
        go_upto_region 8 with fail
        go_cut [28] from 23 to 28 (fun s wc => PsB c (n + 12 + 20 * L) (1 < L) W s wc)
        case first =>
          by_cases h1 : 1 < L
          case neg =>
            have g2 : decide ((1 : Int) < (L : Int)) = false := decide_eq_false (by omega)
            go_wp2_with fail
            go_meet
            exact ⟨false, rfl, by simp, H4.out.mono (by omega), Chg.refl _ _⟩
          case pos =>
            have g2 : decide ((1 : Int) < (L : Int)) = true := decide_eq_true (by omega)
            go_wp2_with fail
            refine (one_c 4 c (n + 6 + 20 * L + 4) W H4.out (by omega)).mono ?_
            rintro e w5 ⟨ob, rfl, hcu, hch⟩
            have HU5 := Lib.hid hcu; have HF5 := Lib.hid hch
            clear hcu hch
            go_wp2_with fail
            go_meet
            exact ⟨ob, rfl, fun _ => h1, HU5.out.mono (by omega), HF5.out⟩
        case rest =>
          obtain ⟨b, rfl, hb, hcu, hch⟩ := hcut
          obtain ⟨w5, rfl⟩ : ∃ x : World, x = wc := ⟨_, rfl⟩
          have p5 := pW.chg hch hkc
          have HB := Lib.hid hb
          have HU5 := Lib.hid hcu; have HF5 := Lib.hid (F4.out.trans hch)
          have HR5 := Lib.hid (rowP_chg R4.out hch (by omega))
          clear hb hcu hch pW H4 F4 R4
          go_upto_if 28 with fail
          go_cut [] from 29 to 57 (fun wd => PsQ c (n + 12 + 20 * L) k w (.slice ad1 L cap1) xs (fun p => True) wd)
          case first =>
            cases b
            · go_wp2_with fail
              go_meet
              exact ⟨px, py, p5, trivial, HR5.out, HU5.out, HF5.out⟩
            · have h1 := HB.out rfl
              obtain ⟨P, hP⟩ : ∃ P, L = P + 2 := ⟨L - 2, by omega⟩
              obtain ⟨R, hR⟩ : ∃ R, R = P + 1 := ⟨_, rfl⟩
              have hlen := HXL.out
              obtain ⟨g, ead, hBg, hgl⟩ := RowP.ownA HR5.out (by omega)
              subst ead
              obtain ⟨r0, r1⟩ := RdP.at (RowP.rd HR5.out) (show R < xs.length by omega)
              obtain ⟨s0, s1⟩ := RdP.at (RowP.rd HR5.out) (show P < xs.length by omega)
              have q1 := ptB_in (HALL.out _ (getD_mem (show R < xs.length by omega)))
              have q2 := ptB_in (HALL.out _ (getD_mem (show P < xs.length by omega)))
              obtain ⟨⟨rx, ry⟩, hrr⟩ : ∃ r, xs.getD R default = r := ⟨_, rfl⟩
              obtain ⟨⟨sx, sy⟩, hss⟩ : ∃ r, xs.getD P default = r := ⟨_, rfl⟩
              rw [hrr] at r0 r1 q1
              rw [hss] at s0 s1 q2
              simp only [Nat.zero_add] at r0 r1 s0 s1 q1 q2
              have i1 : (L : Int) - 1 = (R : Int) := by omega
              have i2 : (L : Int) - 2 = (P : Int) := by omega
              have j1 : IntKind.i64.wrap (R : Int) = (R : Int) := i64_small (by omega) (by omega)
              have j2 : IntKind.i64.wrap (P : Int) = (P : Int) := i64_small (by omega) (by omega)
              have i3 : (0 : Int) ≤ (R : Int) := by omega
              have i4 : (R : Int) < (L : Int) := by omega
              have i5 : (0 : Int) ≤ (P : Int) := by omega
              have i6 : (P : Int) < (L : Int) := by omega
              have v1 : IntKind.i64.wrap (2 * rx) = 2 * rx := i64_small (by omega) (by omega)
              have v2 : IntKind.i64.wrap (2 * rx - sx) = 2 * rx - sx := i64_small (by omega) (by omega)
              have v3 : IntKind.i64.wrap (2 * ry) = 2 * ry := i64_small (by omega) (by omega)
              have v4 : IntKind.i64.wrap (2 * ry - sy) = 2 * ry - sy := i64_small (by omega) (by omega)
              have pd : PtO w5.drew k ⟨px, py⟩ := p5
              have ud : Cur w5.drew c (n + 12 + 20 * L) := HU5.out.below (Below.refl _ _).drew
              have cd := HF5.out.trans (Chg.drew c w5)
              have rd := RowP.below HR5.out (Below.refl _ _).drew
              clear hrr hss hlen hP hR h1
              go_upto_region 9 with fail
              go_still_tail 29, (by kernel_rfl)
              change wpList _ _ _ _ _ w5.drew
              generalize w5.drew = w6 at pd ud cd rd ⊢
              obtain ⟨z0, z1⟩ := pd.at
              obtain ⟨y0, y1⟩ := pd.fr
              have h1 := two_chg w6 k (2 * rx - sx) (2 * ry - sy)
              have hb := h1.below hwk (by have := cd.size; omega)
              go_wp2_with fail
              obtain ⟨W2, hW2⟩ : ∃ W2, two w6 k (2 * rx - sx) (2 * ry - sy) = W2 := ⟨_, rfl⟩
              have pe := pd.set (2 * rx - sx) (2 * ry - sy)
              rw [hW2] at h1 hb pe
              unfold two at hW2
              rw [hW2]
              go_meet
              exact ⟨_, _, pe, trivial, RowP.chgK rd h1 HKB.out, ud.under hb hcl, cd.under hb (Nat.le_refl _) h1.size⟩
          case rest =>
            obtain ⟨qx, qy, pq, -, hrow, hcu, hch⟩ := hcut
            obtain ⟨w6, rfl⟩ : ∃ x : World, x = wc := ⟨_, rfl⟩
            have HU6 := Lib.hid hcu; have HF6 := Lib.hid hch; have HR6 := Lib.hid hrow
            clear hcu hch hrow p5 HU5 HF5 HR5
            obtain ⟨z0, z1⟩ := pq.at
            have co := fun w => pyOne_c ⟨qx, qy⟩ w
            obtain ⟨b2, hb2⟩ : ∃ b2, ptB ⟨qx, qy⟩ = b2 := ⟨_, rfl⟩
            rw [hb2] at co
            have HB2 := Lib.hid hb2; clear hb2
            unfold ptV at co
            have CO := Lib.hid co; clear co
            go_wp2_with fail
            refine (CO.out _).mono ?_
            rintro e w7 ⟨rfl, hbw⟩
            have p7 := pq.below hbw
            have HU7 := Lib.hid (HU6.out.below hbw); have HF7 := Lib.hid (HF6.out.trans (Chg.of_below hbw)); have HR7 := Lib.hid (RowP.below HR6.out hbw)
            clear hbw pq HU6 HF6 HR6 z0 z1
            go_upto_if 60 with fail
            go_cut [] from 61 to 62 (fun wd => PsQ c (n + 18 + 20 * L) k w (.slice ad1 L cap1) xs (fun p => ptB p = true) wd)
            case first =>
              cases b2
              · go_wp2_with fail
                refine (point_c c (n + 12 + 20 * L) w7 HU7.out (by omega)).mono ?_
                rintro e w8 ⟨ux, uy, rfl, hp, hcu, hch⟩
                have p8 := p7.chg hch hkc
                have HP8 := Lib.hid hp
                have HU8 := Lib.hid hcu; have HF8 := Lib.hid (HF7.out.trans hch); have HR8 := Lib.hid (rowP_chg HR7.out hch (by omega))
                clear hp hcu hch p7 HU7 HF7 HR7
                obtain ⟨z0, z1⟩ := p8.at
                obtain ⟨y0, y1⟩ := p8.fr
                have h1 := two_chg w8 k ux uy
                have hb := h1.below hwk (by have := HF8.out.size; omega)
                go_wp2_with fail
                obtain ⟨W2, hW2⟩ : ∃ W2, two w8 k ux uy = W2 := ⟨_, rfl⟩
                have pe := p8.set ux uy
                rw [hW2] at h1 hb pe
                unfold two at hW2
                rw [hW2]
                go_meet
                exact ⟨_, _, pe, small_ptB HP8.out, RowP.chgK HR8.out h1 HKB.out, (HU8.out.under hb hcl).mono (by omega), HF8.out.under hb (Nat.le_refl _) h1.size⟩
              · go_wp2_with fail
                go_meet
                exact ⟨_, _, p7, HB2.out, HR7.out, HU7.out.mono (by omega), HF7.out⟩
            case rest =>
              obtain ⟨vx, vy, pv, hpv, hrow, hcu, hch⟩ := hcut
              obtain ⟨w8, rfl⟩ : ∃ x : World, x = wc := ⟨_, rfl⟩
              have HU8 := Lib.hid hcu; have HF8 := Lib.hid hch; have HR8 := Lib.hid hrow; have HPV := Lib.hid hpv
              have hsz8 := hch.size
              clear hcu hch hrow hpv p7 HU7 HF7 HR7
              obtain ⟨z0, z1⟩ := pv.at
              go_wp2_with (at_builtin; refine wpList_appQ rfl _ _ rfl w.heap.size _ 0 1 _ xs [⟨vx, vy⟩] rfl rfl (RowP.alloc' HR8.out) (rdP_one _ _ _ _ rfl) (by have := HXL.out; omega) (by simp) (Nat.le_trans hsz8 (by simp)) ?_; intro v9 wm hown hbm hgr)
              have hgr2 : w8.heap.size < wm.heap.size := by simp at hgr; omega
              obtain ⟨hu9, hf9⟩ := draw_appP (Below.refl _ _) HU8.out HF8.out hcl hbm hgr2
              have HR9 := Lib.hid hown
              have HU9 := Lib.hid hu9
              have HF9 := Lib.hid hf9
              clear hown hbm hgr hgr2 hu9 hf9
              go_wp2_with fail
              go_roundw
              case rel =>
                refine ⟨xs ++ [⟨vx, vy⟩], by rw [List.length_append, HXL.out]; simp; omega, fun p hp => ?_, HR9.out, by rw [List.length_append, HXL.out]; exact HU9.out.mono (by simp; omega), HF9.out⟩
                rcases List.mem_append.1 hp with h | h
                · exact HALL.out p h
                · simp at h; subst h; exact HPV.out
              case measure =>
                obtain ⟨ad9, cp9, e9, _⟩ := RowP.shape HR9.out
                rw [e9]
                simp only [slenP, List.length_append, List.length_singleton, HXL.out]
                omega
      case neg =>
        obtain rfl : L = N := by omega
        have g1 : decide ((L : Int) < (L : Int)) = false := decide_eq_false (by omega)
        go_upto_region 13 with fail
        go_cut [72] from 67 to 72 (fun s wc => PsB c (n + 8 + 20 * L) (0 < L) wE s wc)
        case first =>
          by_cases h1 : 0 < L
          case neg =>
            have g2 : decide ((0 : Int) < (L : Int)) = false := decide_eq_false (by omega)
            go_wp2_with fail
            go_meet
            exact ⟨false, rfl, by simp, HU.out.mono (by omega), Chg.refl _ _⟩
          case pos =>
            have g2 : decide ((0 : Int) < (L : Int)) = true := decide_eq_true (by omega)
            go_wp2_with fail
            refine (one_c 20 c (n + 6 + 20 * L) wE HU.out (by omega)).mono ?_
            rintro e w5 ⟨ob, rfl, hcu, hch⟩
            have HU5 := Lib.hid hcu; have HF5 := Lib.hid hch
            clear hcu hch
            go_wp2_with fail
            go_meet
            exact ⟨ob, rfl, fun _ => h1, HU5.out.mono (by omega), HF5.out⟩
        case rest =>
          obtain ⟨b, rfl, hb, hcu, hch⟩ := hcut
          obtain ⟨w5, rfl⟩ : ∃ x : World, x = wc := ⟨_, rfl⟩
          have HB := Lib.hid hb
          have HU5 := Lib.hid hcu; have HF5 := Lib.hid (HF.out.trans hch)
          have HR5 := Lib.hid (rowP_chg HR.out hch (by omega))
          clear hb hcu hch HU HF HR
          cases b
          case false =>
            go_wp2_with fail
            go_ret
            exact ⟨_, xs, rfl, HR5.out, (by have := HXL.out; show xs.length ≤ 41; omega), HU5.out.mono (by omega), HF5.out⟩
          case true =>
            have h1 := HB.out rfl
            go_wp2_with fail
            refine (pick_c (L : Int) c (n + 8 + 20 * L) w5 HU5.out (by omega)).mono ?_
            rintro e w6 ⟨j0, rfl, hj, hcu, hch⟩
            obtain ⟨j, rfl⟩ : ∃ j : Nat, j0 = j := ⟨j0.toNat, by omega⟩
            have hjl : j < L := by omega
            have HU6 := Lib.hid hcu; have HF6 := Lib.hid (HF5.out.trans hch)
            have HR6 := Lib.hid (rowP_chg HR5.out hch (by omega))
            clear hcu hch hj HU5 HF5 HR5
            go_wp2_with fail
            refine (anyPoint_c c (n + 8 + 20 * L + 2) w6 HU6.out (by omega)).mono ?_
            rintro e w7 ⟨vx, vy, rfl, -, hcu, hch⟩
            have HU7 := Lib.hid hcu; have HF7 := Lib.hid (HF6.out.trans hch)
            have HR7 := Lib.hid (rowP_chg HR6.out hch (by omega))
            clear hcu hch HU6 HF6 HR6
            have hlen := HXL.out
            obtain ⟨g, ead, hBg, hgl⟩ := RowP.ownA HR7.out (by omega)
            subst ead
            have hrow := HR7.out
            rw [← hlen] at hrow
            have hset := RowP.set2 hrow (j := j) (by omega) vx vy
            rw [hlen] at hset
            have HSET := Lib.hid hset
            have hfz0 := World.ownsRow.frozenAt hrow (j * 2)
            have hfz1 := World.ownsRow.frozenAt hrow (j * 2 + 1)
            have hcl0 := World.ownsRow.cellAt hrow (j * 2) (by omega)
            have hcl1 := World.ownsRow.cellAt hrow (j * 2 + 1) (by omega)
            rw [(ptsV_get (show j < xs.length by omega)).1] at hcl0
            rw [(ptsV_get (show j < xs.length by omega)).2] at hcl1
            clear hset hrow
            have x1 : (0 : Int) ≤ (j : Int) := by omega
            have x2 : (j : Int) < (L : Int) := by omega
            have hbS := ((Below.refl w.heap.size w7).setCell (p := ⟨g, j * 2, none⟩) hBg (.int .i64 vx)).setCell (p := ⟨g, j * 2 + 1, none⟩) hBg (.int .i64 vy)
            go_wp2_with fail
            go_ret
            exact ⟨_, _, rfl, HSET.out, (by have := HXL.out; show (xs.set j ⟨vx, vy⟩).length ≤ 41; rw [List.length_set]; omega), (HU7.out.under hbS hcl).mono (by omega), HF7.out.under hbS (Nat.le_refl _) (by simp [World.setCell])⟩
end Go.Proofs.YtnapcjfemlhkmaaGreatDoor
