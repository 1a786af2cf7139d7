/-
  All cells: the reference's ceOf. Printed by gen_cpY.py. By an AI agent.
-/
import Derived.Test.YtcionneopgdebaaGreatCpW
import Derived.Test.YtcionneopgdebaaGreatCpQ
namespace Go.Proofs.YtcionneopgdebaaGreat
open Go.RowKit
open LstSort (ltL insL putF putF_snoc)

theorem bcellQ {W w : World} {b o : Nat} {v : Value} (h : Below W.heap.size W w) (hf : b < W.heap.size ∧ W.cell? ⟨b, o, none⟩ = some v) : w.cell? ⟨b, o, none⟩ = some v := bcell h hf.1 hf.2
theorem putF_cells {L : List Tm} {M : List (List Int)} (h : ∀ x ∈ M, ∃ a b c, x = celL L a b c) : ∀ x ∈ putF M, x.length ≤ L.length := fun x hx => by
  obtain ⟨a, b, c, rfl⟩ := h x ((LstSort.putF_mem _ _).1 hx)
  exact onL3_len L a b c _
structure CoI (bl ol n cap x y z : Nat) (o u v : Tm) (T : Int) (tz : Bool) (W : World) (L : Nat → Bool) (w : World) (s29 s30 s31 s32 s33 s34 s35 s36 s37 s38 s39 s40 s41 s42 s43 s44 s45 : Value) : Prop where
  bel : Below W.heap.size W w
  p0 : L 0 = true → s29 = .slice (some ⟨bl, ol, none⟩) n cap
  p1 : L 1 = true → s30 = .int .i64 x
  p2 : L 2 = true → s31 = .pointer (some ⟨bl, ol + x * 3, none⟩)
  p3 : L 3 = true → s32 = .agg #[.int .i64 o.i, .int .i64 o.j, .int .i64 o.c]
  p4 : L 4 = true → s33 = .agg #[.int .i64 o.i, .int .i64 o.j]
  p5 : L 5 = true → s34 = .slice (some ⟨bl, ol, none⟩) n cap
  p6 : L 6 = true → s35 = .int .i64 y
  p7 : L 7 = true → s36 = .pointer (some ⟨bl, ol + y * 3, none⟩)
  p8 : L 8 = true → s37 = .agg #[.int .i64 u.i, .int .i64 u.j, .int .i64 u.c]
  p9 : L 9 = true → s38 = .agg #[.int .i64 u.i, .int .i64 u.j]
  p10 : L 10 = true → s39 = .slice (some ⟨bl, ol, none⟩) n cap
  p11 : L 11 = true → s40 = .int .i64 z
  p12 : L 12 = true → s41 = .pointer (some ⟨bl, ol + z * 3, none⟩)
  p13 : L 13 = true → s42 = .agg #[.int .i64 v.i, .int .i64 v.j, .int .i64 v.c]
  p14 : L 14 = true → s43 = .agg #[.int .i64 v.i, .int .i64 v.j]
  p15 : L 15 = true → s44 = .int .i64 T
  p16 : L 16 = true → s45 = .bool tz
/-- While the cells are put in. -/
structure PuC (W : World) (M : List (List Int)) (v : Value) (w : World) : Prop where
  ex : ∃ vs, MatL w W.heap.size W.heap.size v (putF M) vs
  bel : Below W.heap.size W w
theorem PuC.below {W w w' : World} {M : List (List Int)} {v : Value} (h : PuC W M v w) (hb : Below w.heap.size w w') : PuC W M v w' := by
  obtain ⟨vs, h1⟩ := h.ex
  exact ⟨⟨vs, h1.below hb⟩, ball h.bel hb⟩
theorem PuC.shape {W w : World} {M : List (List Int)} {v : Value} (h : PuC W M v w) : ∃ ad cap, v = .slice ad (putF M).length cap := by
  obtain ⟨vs, h1⟩ := h.ex
  obtain ⟨ad, cap, e, _⟩ := h1.shape
  exact ⟨ad, cap, e⟩

set_option maxHeartbeats 6400000 in
set_option maxRecDepth 100000 in
theorem ceOf_c (bl ol cap : Nat) (L : List Tm) (w : World) (hr : RdT w (some ⟨bl, ol, none⟩) L) (hp : ∀ k, k < L.length → termB (tmAt L k) = true) (hl : L.length ≤ 12) (h0 : 0 < L.length) :
    Calls Tryz.prog 27 #[.slice (some ⟨bl, ol, none⟩) L.length cap] w (PutR w.heap.size (celA L) w) := by
  have HR := Lib.hid hr
  have HP := Lib.hid hp
  have hbl : bl < w.heap.size := by
    obtain ⟨b', o', e, h, _⟩ := hr 0 h0
    cases e; exact h
  have HCEL := Lib.hid (fun a b c w' (h : RdT w' (some ⟨bl, ol, none⟩) L) ha hb hc hT => ceCell_c bl ol cap L a b c w' h ha hb hc hp hl hT)
  have HPT := Lib.hid (fun (t : Tm) w => cePoint_c t w)
  have HTU := Lib.hid (fun a b c w (ha : a < L.length) (hb : b < L.length) (hc : c < L.length) => pyTurn_c (pnt (tmAt L a)) (pnt (tmAt L b)) (pnt (tmAt L c)) w
    (by have := termB_t (hp a ha); exact ⟨by show _ ≤ (tmAt L a).i; omega, by show (tmAt L a).i ≤ _; omega, by show _ ≤ (tmAt L a).j; omega, by show (tmAt L a).j ≤ _; omega⟩)
    (by have := termB_t (hp b hb); exact ⟨by show _ ≤ (tmAt L b).i; omega, by show (tmAt L b).i ≤ _; omega, by show _ ≤ (tmAt L b).j; omega, by show (tmAt L b).j ≤ _; omega⟩)
    (by have := termB_t (hp c hc); exact ⟨by show _ ≤ (tmAt L c).i; omega, by show (tmAt L c).i ≤ _; omega, by show _ ≤ (tmAt L c).j; omega, by show (tmAt L c).j ≤ _; omega⟩))
  have HAT := Lib.hid (fun k (hk : k < L.length) => show w.cell? ⟨bl, ol + k * 3, none⟩ = some (.int .i64 (tmAt L k).i) ∧ w.cell? ⟨bl, ol + k * 3 + 1, none⟩ = some (.int .i64 (tmAt L k).j) ∧ w.cell? ⟨bl, ol + k * 3 + 2, none⟩ = some (.int .i64 (tmAt L k).c) from RdT.at hr hk)
  obtain ⟨n, hn⟩ : ∃ n, L.length = n := ⟨_, rfl⟩
  rw [hn] at HCEL HTU HAT hl h0 ⊢
  have HN := Lib.hid hn
  clear hn hp hr
  have HI0 := Lib.hid (show PuC w [] (.slice none 0 0) w from ⟨⟨[], MatL.nil _ _ _⟩, Below.refl _ _⟩)
  go_enter Tryz.func27, Tryz.ntmps27
  go_wp2_with fail
  go_loopw [3, 10] (fun s i wr => ∃ k : Nat, k ≤ n ∧ i = .int .i64 k ∧ PuC w (cel1 L k) s wr) (fun _ i _ => n - (intOf i).toNat)
  case atStart => exact ⟨0, Nat.zero_le _, rfl, HI0.out⟩
  case round =>
    obtain ⟨wA, rfl⟩ : ∃ y : World, y = wr := ⟨_, rfl⟩
    obtain ⟨x, hx, rfl, hinv⟩ := hrel
    obtain ⟨ad1, cp1, rfl⟩ := hinv.shape
    have HIV := Lib.hid hinv; clear hinv
    by_cases hlt : x < n
    case neg =>
      obtain rfl : n = x := by omega
      have HE := Lib.hid (show celA L = putF (cel1 L n) from by rw [← HN.out]; rfl)
      obtain ⟨vs, hm⟩ := HIV.out.ex
      have HM := Lib.hid hm
      have HB := Lib.hid HIV.out.bel
      generalize putF (cel1 L n) = PF at HM HE HIV
      clear hm
      go_wp2_with fail
      go_ret
      exact ⟨ad1, cp1, vs, by rw [HE.out]; rfl, by rw [HE.out]; exact HM.out, HB.out⟩
    case pos =>
      have HC1 := Lib.hid (show cel1 L (x + 1) = cel1 L x ++ cel2 L x n from by rw [← HN.out]; rfl)
      have w1' : IntKind.i64.wrap ((x : Int) + 1) = ((x + 1 : Nat) : Int) := by rw [i64_small (by omega) (by omega)]; omega
      have HI1 := Lib.hid (show PuC w (cel1 L x ++ cel2 L x (x + 1)) _ wA from by rw [cel2_low L x (x + 1) (Nat.le_refl _), List.append_nil]; exact HIV.out)
      generalize (putF (cel1 L x)).length = N1 at HI1 HIV
      clear HIV
      go_wp2_with fail
      go_loopw [3, 5] (fun s i wr => ∃ k : Nat, x + 1 ≤ k ∧ k ≤ n ∧ i = .int .i64 k ∧ PuC w (cel1 L x ++ cel2 L x k) s wr) (fun _ i _ => n - (intOf i).toNat)
      case atStart => exact ⟨x + 1, Nat.le_refl _, hlt, by first | rfl | simp, HI1.out⟩
      case round =>
        obtain ⟨wB, rfl⟩ : ∃ y : World, y = wr := ⟨_, rfl⟩
        obtain ⟨y, hy0, hy, rfl, hinv⟩ := hrel
        obtain ⟨ad2, cp2, rfl⟩ := hinv.shape
        have HIY := Lib.hid hinv; clear hinv HI1
        by_cases hyt : y < n
        case neg =>
          obtain rfl : n = y := by omega
          have HE := Lib.hid (show PuC w (cel1 L (x + 1)) _ wB from by rw [HC1.out]; exact HIY.out)
          generalize (putF (cel1 L x ++ cel2 L x n)).length = N2 at HE HIY
          go_wp2_with fail
          go_roundw
          case rel => exact ⟨x + 1, by omega, by go_num, HE.out⟩
          case measure => simp [intOf]; omega
        case pos =>
          have HC2 := Lib.hid (show cel2 L x (y + 1) = cel2 L x y ++ cel3 L x y n from by rw [← HN.out]; show (if x < y then _ else _) = _; rw [if_pos (by omega)])
          have HI2 := Lib.hid (show PuC w (cel1 L x ++ cel2 L x y ++ cel3 L x y (y + 1)) _ wB from by rw [cel3_low L x y (y + 1) (Nat.le_refl _), List.append_nil]; exact HIY.out)
          generalize (putF (cel1 L x ++ cel2 L x y)).length = N2 at HI2 HIY
          have w2' : IntKind.i64.wrap ((y : Int) + 1) = ((y + 1 : Nat) : Int) := by rw [i64_small (by omega) (by omega)]; omega
          clear HIY
          go_wp2_with fail
          go_loopw [3, 6] (fun s i wr => ∃ k : Nat, y + 1 ≤ k ∧ k ≤ n ∧ i = .int .i64 k ∧ PuC w (cel1 L x ++ cel2 L x y ++ cel3 L x y k) s wr) (fun _ i _ => n - (intOf i).toNat)
          case atStart => exact ⟨y + 1, Nat.le_refl _, hyt, by first | rfl | simp, HI2.out⟩
          case round =>
            obtain ⟨wC, rfl⟩ : ∃ y : World, y = wr := ⟨_, rfl⟩
            obtain ⟨z, hz0, hz, rfl, hinv⟩ := hrel
            obtain ⟨ad3, cp3, rfl⟩ := hinv.shape
            have HIZ := Lib.hid hinv; clear hinv HI2
            by_cases hzt : z < n
            case neg =>
              obtain rfl : n = z := by omega
              have HE := Lib.hid (show PuC w (cel1 L x ++ cel2 L x (y + 1)) _ wC from by rw [HC2.out, ← List.append_assoc]; exact HIZ.out)
              generalize (putF (cel1 L x ++ cel2 L x y ++ cel3 L x y n)).length = N3 at HE HIZ
              go_wp2_with fail
              go_roundw
              case rel => exact ⟨y + 1, by omega, by omega, by go_num, HE.out⟩
              case measure => simp [intOf]; omega
            case pos =>
              have HLE := Lib.hid (show (putF (cel1 L x ++ cel2 L x y ++ cel3 L x y z)).length ≤ 2000 from by
                have h1 := cel1_len L (by rw [HN.out]; exact hl) x
                have h2 := cel2_len L (by rw [HN.out]; exact hl) x y
                have h3 := cel3_len L x y z
                have h4 := putF_len (cel1 L x ++ cel2 L x y ++ cel3 L x y z)
                rw [List.length_append, List.length_append] at h4
                omega)
              have HRL := Lib.hid (show ∀ r ∈ putF (cel1 L x ++ cel2 L x y ++ cel3 L x y z), r.length ≤ 100000 from fun r hr => by
                have := putF_cells (L := L) (fun q hq => by
                  rcases List.mem_append.1 hq with hq | hq
                  · rcases List.mem_append.1 hq with hq | hq
                    · obtain ⟨a, b, c, _, e⟩ := cel1_in hq; exact ⟨a, b, c, e⟩
                    · obtain ⟨b, c, e⟩ := cel2_in hq; exact ⟨x, b, c, e⟩
                  · obtain ⟨c, e⟩ := cel3_in hq; exact ⟨x, y, c, e⟩) r hr
                rw [HN.out] at this
                omega)
              have HC3 := Lib.hid (show cel3 L x y (z + 1) = if celB L x y z = true then cel3 L x y z ++ [celL L x y z] else cel3 L x y z from by
                show (if y < z ∧ celB L x y z = true then _ else _) = _
                by_cases e : celB L x y z = true
                · rw [if_pos ⟨by omega, e⟩, if_pos e]
                · rw [if_neg (fun g => e g.2), if_neg e])
              generalize hMM : cel1 L x ++ cel2 L x y ++ cel3 L x y z = M at HIZ HLE HRL
              have HMM := Lib.hid hMM; clear hMM
              obtain ⟨N3, hN3⟩ : ∃ z, (putF M).length = z := ⟨_, rfl⟩
              have HN3 := Lib.hid hN3
              have hbw := HIZ.out.bel
              have hws := hbw.size
              have F0 := HAT.out x hlt; have F1 := HAT.out y hyt; have F2 := HAT.out z hzt
              have HTT := Lib.hid (fun w' => HTU.out x y z w' hlt hyt hzt)
              have HCC := Lib.hid (fun w' (hb : Below wC.heap.size wC w') => HCEL.out x y z w' ((HR.out.below hbw).below hb) hlt hyt hzt)
              have HCB := Lib.hid (show celB L x y z = (decide (trnL L x y z ≠ 0) && lowB L x y z n) from by rw [← HN.out]; rfl)
              have HXL := Lib.hid (show (celL L x y z).length ≤ 12 from by have := onL3_len L x y z L.length; have := HN.out; unfold celL; omega)
              have HCN := Lib.hid (celL_ne (L := L) (b := y) (c := z) (by rw [HN.out]; exact hlt))
              obtain ⟨T, hT⟩ : ∃ T, trnL L x y z = T := ⟨_, rfl⟩
              rw [show turnZ (pnt (tmAt L x)) (pnt (tmAt L y)) (pnt (tmAt L z)) = T from hT] at HTT
              rw [hT] at HCC HCB
              generalize tmAt L x = o at F0 HTT
              generalize tmAt L y = u at F1 HTT
              generalize tmAt L z = v at F2 HTT
              have G00 := Lib.hid (show bl < wC.heap.size ∧ wC.cell? ⟨bl, ol + x * 3, none⟩ = some (.int .i64 o.i) from ⟨by omega, bcell hbw hbl F0.1⟩)
              have G01 := Lib.hid (show bl < wC.heap.size ∧ wC.cell? ⟨bl, ol + x * 3 + 1, none⟩ = some (.int .i64 o.j) from ⟨by omega, bcell hbw hbl F0.2.1⟩)
              have G02 := Lib.hid (show bl < wC.heap.size ∧ wC.cell? ⟨bl, ol + x * 3 + 2, none⟩ = some (.int .i64 o.c) from ⟨by omega, bcell hbw hbl F0.2.2⟩)
              have G10 := Lib.hid (show bl < wC.heap.size ∧ wC.cell? ⟨bl, ol + y * 3, none⟩ = some (.int .i64 u.i) from ⟨by omega, bcell hbw hbl F1.1⟩)
              have G11 := Lib.hid (show bl < wC.heap.size ∧ wC.cell? ⟨bl, ol + y * 3 + 1, none⟩ = some (.int .i64 u.j) from ⟨by omega, bcell hbw hbl F1.2.1⟩)
              have G12 := Lib.hid (show bl < wC.heap.size ∧ wC.cell? ⟨bl, ol + y * 3 + 2, none⟩ = some (.int .i64 u.c) from ⟨by omega, bcell hbw hbl F1.2.2⟩)
              have G20 := Lib.hid (show bl < wC.heap.size ∧ wC.cell? ⟨bl, ol + z * 3, none⟩ = some (.int .i64 v.i) from ⟨by omega, bcell hbw hbl F2.1⟩)
              have G21 := Lib.hid (show bl < wC.heap.size ∧ wC.cell? ⟨bl, ol + z * 3 + 1, none⟩ = some (.int .i64 v.j) from ⟨by omega, bcell hbw hbl F2.2.1⟩)
              have G22 := Lib.hid (show bl < wC.heap.size ∧ wC.cell? ⟨bl, ol + z * 3 + 2, none⟩ = some (.int .i64 v.c) from ⟨by omega, bcell hbw hbl F2.2.2⟩)
              have HWR := Lib.hid hbw
              have HTE := Lib.hid hT
              rw [hN3] at HIZ
              rw [hN3]
              clear F0 F1 F2 hbw hT hN3
              go_upto_region 11 with fail
              obtain ⟨tz, htz⟩ : ∃ b, (T == 0) = b := ⟨_, rfl⟩
              have HTZ := Lib.hid htz
              go_cut [45] from 29 to 45 (fun s45 wd => s45 = .bool tz ∧ Below wC.heap.size wC wd)
              case first =>
                refine wp_region_inv (fun L ac w' => ∃ s29 s30 s31 s32 s33 s34 s35 s36 s37 s38 s39 s40 s41 s42 s43 s44 s45 : Value, ac = { tmps := #[.slice (some ⟨bl, ol, none⟩) n cap, undef, .slice none 0 0, .slice ad3 N3 cp3, .int .i64 x, .int .i64 y, .int .i64 z, u7, .slice (some ⟨bl, ol, none⟩) n cap, .int .i64 n, .int .i64 x, .bool true, .int .i64 x, .int .i64 x, .int .i64 (x + 1), .int .i64 y, .slice (some ⟨bl, ol, none⟩) n cap, .int .i64 n, .bool true, u19, u20, .int .i64 y, .int .i64 (y + 1), .int .i64 z, .slice (some ⟨bl, ol, none⟩) n cap, .int .i64 n, .bool true, u27, u28, s29, s30, s31, s32, s33, s34, s35, s36, s37, s38, s39, s40, s41, s42, s43, s44, s45, u46, u47, u48, u49, u50, u51, u52, u53, u54, u55, u56, u57, undef], defers := [] } ∧ CoI bl ol n cap x y z o u v T tz wC L w' s29 s30 s31 s32 s33 s34 s35 s36 s37 s38 s39 s40 s41 s42 s43 s44 s45) (by kernel_rfl) (by kernel_rfl) ?_ ?_ ?_
                · exact ⟨_, _, _, _, _, _, _, _, _, _, _, _, _, _, _, _, _, rfl, (Below.refl _ _).drew, (fun e => by cases e), (fun e => by cases e), (fun e => by cases e), (fun e => by cases e), (fun e => by cases e), (fun e => by cases e), (fun e => by cases e), (fun e => by cases e), (fun e => by cases e), (fun e => by cases e), (fun e => by cases e), (fun e => by cases e), (fun e => by cases e), (fun e => by cases e), (fun e => by cases e), (fun e => by cases e), (fun e => by cases e)⟩
                · rintro L ac w' ⟨s29, s30, s31, s32, s33, s34, s35, s36, s37, s38, s39, s40, s41, s42, s43, s44, s45, rfl, H⟩ hL
                  obtain rfl := H.p16 (hL 16 (by decide))
                  have HB := Lib.hid H.bel
                  clear H hL
                  go_wp2_with fail
                  go_meet
                  exact ⟨rfl, HB.out⟩
                · rintro i L ac w' ⟨s29, s30, s31, s32, s33, s34, s35, s36, s37, s38, s39, s40, s41, s42, s43, s44, s45, rfl, H⟩ hi hL hw
                  have hi : i < 17 := hi
                  have HH := Lib.hid H; have HWt := Lib.hid hw
                  clear H hw
                  rcases (show i = 0 ∨ i = 1 ∨ i = 2 ∨ i = 3 ∨ i = 4 ∨ i = 5 ∨ i = 6 ∨ i = 7 ∨ i = 8 ∨ i = 9 ∨ i = 10 ∨ i = 11 ∨ i = 12 ∨ i = 13 ∨ i = 14 ∨ i = 15 ∨ i = 16 by omega) with rfl | rfl | rfl | rfl | rfl | rfl | rfl | rfl | rfl | rfl | rfl | rfl | rfl | rfl | rfl | rfl | rfl
                  · refine' wpOp_step (o := ?oCo0) ?hoCo0 (fun K hK => ?stCo0)
                    case hoCo0 => rfl
                    case stCo0 =>
                      have HK := Lib.hid hK; clear hK
                      go_simp
                      refine HK.out _ _ ⟨_, _, _, _, _, _, _, _, _, _, _, _, _, _, _, _, _, rfl, ?_⟩
                      have h := HH.out
                      exact ⟨h.bel, (fun _ => rfl), (fun e => h.p1 e), (fun e => h.p2 e), (fun e => h.p3 e), (fun e => h.p4 e), (fun e => h.p5 e), (fun e => h.p6 e), (fun e => h.p7 e), (fun e => h.p8 e), (fun e => h.p9 e), (fun e => h.p10 e), (fun e => h.p11 e), (fun e => h.p12 e), (fun e => h.p13 e), (fun e => h.p14 e), (fun e => h.p15 e), (fun e => h.p16 e)⟩
                  · refine' wpOp_step (o := ?oCo1) ?hoCo1 (fun K hK => ?stCo1)
                    case hoCo1 => rfl
                    case stCo1 =>
                      have HK := Lib.hid hK; clear hK
                      go_simp
                      refine HK.out _ _ ⟨_, _, _, _, _, _, _, _, _, _, _, _, _, _, _, _, _, rfl, ?_⟩
                      have h := HH.out
                      exact ⟨h.bel, (fun e => h.p0 e), (fun _ => rfl), (fun e => h.p2 e), (fun e => h.p3 e), (fun e => h.p4 e), (fun e => h.p5 e), (fun e => h.p6 e), (fun e => h.p7 e), (fun e => h.p8 e), (fun e => h.p9 e), (fun e => h.p10 e), (fun e => h.p11 e), (fun e => h.p12 e), (fun e => h.p13 e), (fun e => h.p14 e), (fun e => h.p15 e), (fun e => h.p16 e)⟩
                  · refine' wpOp_step (o := ?oCo2) ?hoCo2 (fun K hK => ?stCo2)
                    case hoCo2 => rfl
                    case stCo2 =>
                      have HK := Lib.hid hK; clear hK
                      obtain rfl := HH.out.p1 (HWt.out 1 (by kernel_rfl))
                      obtain rfl := HH.out.p0 (HWt.out 0 (by kernel_rfl))
                      have hq1 : (0 : Int) ≤ (x : Int) := by omega
                      have hq2 : (x : Int) < (n : Int) := by omega
                      go_simp
                      refine HK.out _ _ ⟨_, _, _, _, _, _, _, _, _, _, _, _, _, _, _, _, _, rfl, ?_⟩
                      have h := HH.out
                      exact ⟨h.bel, (fun e => h.p0 e), (fun e => h.p1 e), (fun _ => rfl), (fun e => h.p3 e), (fun e => h.p4 e), (fun e => h.p5 e), (fun e => h.p6 e), (fun e => h.p7 e), (fun e => h.p8 e), (fun e => h.p9 e), (fun e => h.p10 e), (fun e => h.p11 e), (fun e => h.p12 e), (fun e => h.p13 e), (fun e => h.p14 e), (fun e => h.p15 e), (fun e => h.p16 e)⟩
                  · refine' wpOp_step (o := ?oCo3) ?hoCo3 (fun K hK => ?stCo3)
                    case hoCo3 => rfl
                    case stCo3 =>
                      have HK := Lib.hid hK; clear hK
                      obtain rfl := HH.out.p2 (HWt.out 2 (by kernel_rfl))
                      have y0 := bcellQ HH.out.bel G00.out
                      have y1 := bcellQ HH.out.bel G01.out
                      have y2 := bcellQ HH.out.bel G02.out
                      go_simp
                      refine HK.out _ _ ⟨_, _, _, _, _, _, _, _, _, _, _, _, _, _, _, _, _, rfl, ?_⟩
                      have h := HH.out
                      exact ⟨h.bel, (fun e => h.p0 e), (fun e => h.p1 e), (fun e => h.p2 e), (fun _ => rfl), (fun e => h.p4 e), (fun e => h.p5 e), (fun e => h.p6 e), (fun e => h.p7 e), (fun e => h.p8 e), (fun e => h.p9 e), (fun e => h.p10 e), (fun e => h.p11 e), (fun e => h.p12 e), (fun e => h.p13 e), (fun e => h.p14 e), (fun e => h.p15 e), (fun e => h.p16 e)⟩
                  · refine' wpOp_step (o := ?oCo4) ?hoCo4 (fun K hK => ?stCo4)
                    case hoCo4 => rfl
                    case stCo4 =>
                      have HK := Lib.hid hK; clear hK
                      obtain rfl := HH.out.p3 (HWt.out 3 (by kernel_rfl))
                      go_simp
                      go_at_call 52
                      refine (HPT.out o _).mono ?_
                      rintro e wN ⟨rfl, hwN⟩
                      refine HK.out _ _ ⟨_, _, _, _, _, _, _, _, _, _, _, _, _, _, _, _, _, rfl, ?_⟩
                      have h := HH.out
                      exact ⟨ball h.bel hwN, (fun e => h.p0 e), (fun e => h.p1 e), (fun e => h.p2 e), (fun e => h.p3 e), (fun _ => rfl), (fun e => h.p5 e), (fun e => h.p6 e), (fun e => h.p7 e), (fun e => h.p8 e), (fun e => h.p9 e), (fun e => h.p10 e), (fun e => h.p11 e), (fun e => h.p12 e), (fun e => h.p13 e), (fun e => h.p14 e), (fun e => h.p15 e), (fun e => h.p16 e)⟩
                  · refine' wpOp_step (o := ?oCo5) ?hoCo5 (fun K hK => ?stCo5)
                    case hoCo5 => rfl
                    case stCo5 =>
                      have HK := Lib.hid hK; clear hK
                      go_simp
                      refine HK.out _ _ ⟨_, _, _, _, _, _, _, _, _, _, _, _, _, _, _, _, _, rfl, ?_⟩
                      have h := HH.out
                      exact ⟨h.bel, (fun e => h.p0 e), (fun e => h.p1 e), (fun e => h.p2 e), (fun e => h.p3 e), (fun e => h.p4 e), (fun _ => rfl), (fun e => h.p6 e), (fun e => h.p7 e), (fun e => h.p8 e), (fun e => h.p9 e), (fun e => h.p10 e), (fun e => h.p11 e), (fun e => h.p12 e), (fun e => h.p13 e), (fun e => h.p14 e), (fun e => h.p15 e), (fun e => h.p16 e)⟩
                  · refine' wpOp_step (o := ?oCo6) ?hoCo6 (fun K hK => ?stCo6)
                    case hoCo6 => rfl
                    case stCo6 =>
                      have HK := Lib.hid hK; clear hK
                      go_simp
                      refine HK.out _ _ ⟨_, _, _, _, _, _, _, _, _, _, _, _, _, _, _, _, _, rfl, ?_⟩
                      have h := HH.out
                      exact ⟨h.bel, (fun e => h.p0 e), (fun e => h.p1 e), (fun e => h.p2 e), (fun e => h.p3 e), (fun e => h.p4 e), (fun e => h.p5 e), (fun _ => rfl), (fun e => h.p7 e), (fun e => h.p8 e), (fun e => h.p9 e), (fun e => h.p10 e), (fun e => h.p11 e), (fun e => h.p12 e), (fun e => h.p13 e), (fun e => h.p14 e), (fun e => h.p15 e), (fun e => h.p16 e)⟩
                  · refine' wpOp_step (o := ?oCo7) ?hoCo7 (fun K hK => ?stCo7)
                    case hoCo7 => rfl
                    case stCo7 =>
                      have HK := Lib.hid hK; clear hK
                      obtain rfl := HH.out.p6 (HWt.out 6 (by kernel_rfl))
                      obtain rfl := HH.out.p5 (HWt.out 5 (by kernel_rfl))
                      have hq1 : (0 : Int) ≤ (y : Int) := by omega
                      have hq2 : (y : Int) < (n : Int) := by omega
                      go_simp
                      refine HK.out _ _ ⟨_, _, _, _, _, _, _, _, _, _, _, _, _, _, _, _, _, rfl, ?_⟩
                      have h := HH.out
                      exact ⟨h.bel, (fun e => h.p0 e), (fun e => h.p1 e), (fun e => h.p2 e), (fun e => h.p3 e), (fun e => h.p4 e), (fun e => h.p5 e), (fun e => h.p6 e), (fun _ => rfl), (fun e => h.p8 e), (fun e => h.p9 e), (fun e => h.p10 e), (fun e => h.p11 e), (fun e => h.p12 e), (fun e => h.p13 e), (fun e => h.p14 e), (fun e => h.p15 e), (fun e => h.p16 e)⟩
                  · refine' wpOp_step (o := ?oCo8) ?hoCo8 (fun K hK => ?stCo8)
                    case hoCo8 => rfl
                    case stCo8 =>
                      have HK := Lib.hid hK; clear hK
                      obtain rfl := HH.out.p7 (HWt.out 7 (by kernel_rfl))
                      have y0 := bcellQ HH.out.bel G10.out
                      have y1 := bcellQ HH.out.bel G11.out
                      have y2 := bcellQ HH.out.bel G12.out
                      go_simp
                      refine HK.out _ _ ⟨_, _, _, _, _, _, _, _, _, _, _, _, _, _, _, _, _, rfl, ?_⟩
                      have h := HH.out
                      exact ⟨h.bel, (fun e => h.p0 e), (fun e => h.p1 e), (fun e => h.p2 e), (fun e => h.p3 e), (fun e => h.p4 e), (fun e => h.p5 e), (fun e => h.p6 e), (fun e => h.p7 e), (fun _ => rfl), (fun e => h.p9 e), (fun e => h.p10 e), (fun e => h.p11 e), (fun e => h.p12 e), (fun e => h.p13 e), (fun e => h.p14 e), (fun e => h.p15 e), (fun e => h.p16 e)⟩
                  · refine' wpOp_step (o := ?oCo9) ?hoCo9 (fun K hK => ?stCo9)
                    case hoCo9 => rfl
                    case stCo9 =>
                      have HK := Lib.hid hK; clear hK
                      obtain rfl := HH.out.p8 (HWt.out 8 (by kernel_rfl))
                      go_simp
                      go_at_call 52
                      refine (HPT.out u _).mono ?_
                      rintro e wN ⟨rfl, hwN⟩
                      refine HK.out _ _ ⟨_, _, _, _, _, _, _, _, _, _, _, _, _, _, _, _, _, rfl, ?_⟩
                      have h := HH.out
                      exact ⟨ball h.bel hwN, (fun e => h.p0 e), (fun e => h.p1 e), (fun e => h.p2 e), (fun e => h.p3 e), (fun e => h.p4 e), (fun e => h.p5 e), (fun e => h.p6 e), (fun e => h.p7 e), (fun e => h.p8 e), (fun _ => rfl), (fun e => h.p10 e), (fun e => h.p11 e), (fun e => h.p12 e), (fun e => h.p13 e), (fun e => h.p14 e), (fun e => h.p15 e), (fun e => h.p16 e)⟩
                  · refine' wpOp_step (o := ?oCo10) ?hoCo10 (fun K hK => ?stCo10)
                    case hoCo10 => rfl
                    case stCo10 =>
                      have HK := Lib.hid hK; clear hK
                      go_simp
                      refine HK.out _ _ ⟨_, _, _, _, _, _, _, _, _, _, _, _, _, _, _, _, _, rfl, ?_⟩
                      have h := HH.out
                      exact ⟨h.bel, (fun e => h.p0 e), (fun e => h.p1 e), (fun e => h.p2 e), (fun e => h.p3 e), (fun e => h.p4 e), (fun e => h.p5 e), (fun e => h.p6 e), (fun e => h.p7 e), (fun e => h.p8 e), (fun e => h.p9 e), (fun _ => rfl), (fun e => h.p11 e), (fun e => h.p12 e), (fun e => h.p13 e), (fun e => h.p14 e), (fun e => h.p15 e), (fun e => h.p16 e)⟩
                  · refine' wpOp_step (o := ?oCo11) ?hoCo11 (fun K hK => ?stCo11)
                    case hoCo11 => rfl
                    case stCo11 =>
                      have HK := Lib.hid hK; clear hK
                      go_simp
                      refine HK.out _ _ ⟨_, _, _, _, _, _, _, _, _, _, _, _, _, _, _, _, _, rfl, ?_⟩
                      have h := HH.out
                      exact ⟨h.bel, (fun e => h.p0 e), (fun e => h.p1 e), (fun e => h.p2 e), (fun e => h.p3 e), (fun e => h.p4 e), (fun e => h.p5 e), (fun e => h.p6 e), (fun e => h.p7 e), (fun e => h.p8 e), (fun e => h.p9 e), (fun e => h.p10 e), (fun _ => rfl), (fun e => h.p12 e), (fun e => h.p13 e), (fun e => h.p14 e), (fun e => h.p15 e), (fun e => h.p16 e)⟩
                  · refine' wpOp_step (o := ?oCo12) ?hoCo12 (fun K hK => ?stCo12)
                    case hoCo12 => rfl
                    case stCo12 =>
                      have HK := Lib.hid hK; clear hK
                      obtain rfl := HH.out.p11 (HWt.out 11 (by kernel_rfl))
                      obtain rfl := HH.out.p10 (HWt.out 10 (by kernel_rfl))
                      have hq1 : (0 : Int) ≤ (z : Int) := by omega
                      have hq2 : (z : Int) < (n : Int) := by omega
                      go_simp
                      refine HK.out _ _ ⟨_, _, _, _, _, _, _, _, _, _, _, _, _, _, _, _, _, rfl, ?_⟩
                      have h := HH.out
                      exact ⟨h.bel, (fun e => h.p0 e), (fun e => h.p1 e), (fun e => h.p2 e), (fun e => h.p3 e), (fun e => h.p4 e), (fun e => h.p5 e), (fun e => h.p6 e), (fun e => h.p7 e), (fun e => h.p8 e), (fun e => h.p9 e), (fun e => h.p10 e), (fun e => h.p11 e), (fun _ => rfl), (fun e => h.p13 e), (fun e => h.p14 e), (fun e => h.p15 e), (fun e => h.p16 e)⟩
                  · refine' wpOp_step (o := ?oCo13) ?hoCo13 (fun K hK => ?stCo13)
                    case hoCo13 => rfl
                    case stCo13 =>
                      have HK := Lib.hid hK; clear hK
                      obtain rfl := HH.out.p12 (HWt.out 12 (by kernel_rfl))
                      have y0 := bcellQ HH.out.bel G20.out
                      have y1 := bcellQ HH.out.bel G21.out
                      have y2 := bcellQ HH.out.bel G22.out
                      go_simp
                      refine HK.out _ _ ⟨_, _, _, _, _, _, _, _, _, _, _, _, _, _, _, _, _, rfl, ?_⟩
                      have h := HH.out
                      exact ⟨h.bel, (fun e => h.p0 e), (fun e => h.p1 e), (fun e => h.p2 e), (fun e => h.p3 e), (fun e => h.p4 e), (fun e => h.p5 e), (fun e => h.p6 e), (fun e => h.p7 e), (fun e => h.p8 e), (fun e => h.p9 e), (fun e => h.p10 e), (fun e => h.p11 e), (fun e => h.p12 e), (fun _ => rfl), (fun e => h.p14 e), (fun e => h.p15 e), (fun e => h.p16 e)⟩
                  · refine' wpOp_step (o := ?oCo14) ?hoCo14 (fun K hK => ?stCo14)
                    case hoCo14 => rfl
                    case stCo14 =>
                      have HK := Lib.hid hK; clear hK
                      obtain rfl := HH.out.p13 (HWt.out 13 (by kernel_rfl))
                      go_simp
                      go_at_call 52
                      refine (HPT.out v _).mono ?_
                      rintro e wN ⟨rfl, hwN⟩
                      refine HK.out _ _ ⟨_, _, _, _, _, _, _, _, _, _, _, _, _, _, _, _, _, rfl, ?_⟩
                      have h := HH.out
                      exact ⟨ball h.bel hwN, (fun e => h.p0 e), (fun e => h.p1 e), (fun e => h.p2 e), (fun e => h.p3 e), (fun e => h.p4 e), (fun e => h.p5 e), (fun e => h.p6 e), (fun e => h.p7 e), (fun e => h.p8 e), (fun e => h.p9 e), (fun e => h.p10 e), (fun e => h.p11 e), (fun e => h.p12 e), (fun e => h.p13 e), (fun _ => rfl), (fun e => h.p15 e), (fun e => h.p16 e)⟩
                  · refine' wpOp_step (o := ?oCo15) ?hoCo15 (fun K hK => ?stCo15)
                    case hoCo15 => rfl
                    case stCo15 =>
                      have HK := Lib.hid hK; clear hK
                      obtain rfl := HH.out.p4 (HWt.out 4 (by kernel_rfl))
                      obtain rfl := HH.out.p9 (HWt.out 9 (by kernel_rfl))
                      obtain rfl := HH.out.p14 (HWt.out 14 (by kernel_rfl))
                      go_simp
                      go_at_call 51
                      refine (HTT.out _).mono ?_
                      rintro e wN ⟨rfl, hwN⟩
                      refine HK.out _ _ ⟨_, _, _, _, _, _, _, _, _, _, _, _, _, _, _, _, _, rfl, ?_⟩
                      have h := HH.out
                      exact ⟨ball h.bel hwN, (fun e => h.p0 e), (fun e => h.p1 e), (fun e => h.p2 e), (fun e => h.p3 e), (fun e => h.p4 e), (fun e => h.p5 e), (fun e => h.p6 e), (fun e => h.p7 e), (fun e => h.p8 e), (fun e => h.p9 e), (fun e => h.p10 e), (fun e => h.p11 e), (fun e => h.p12 e), (fun e => h.p13 e), (fun e => h.p14 e), (fun _ => rfl), (fun e => h.p16 e)⟩
                  · refine' wpOp_step (o := ?oCo16) ?hoCo16 (fun K hK => ?stCo16)
                    case hoCo16 => rfl
                    case stCo16 =>
                      have HK := Lib.hid hK; clear hK
                      obtain rfl := HH.out.p15 (HWt.out 15 (by kernel_rfl))
                      have htz := HTZ.out
                      go_simp
                      refine HK.out _ _ ⟨_, _, _, _, _, _, _, _, _, _, _, _, _, _, _, _, _, rfl, ?_⟩
                      have h := HH.out
                      exact ⟨h.bel, (fun e => h.p0 e), (fun e => h.p1 e), (fun e => h.p2 e), (fun e => h.p3 e), (fun e => h.p4 e), (fun e => h.p5 e), (fun e => h.p6 e), (fun e => h.p7 e), (fun e => h.p8 e), (fun e => h.p9 e), (fun e => h.p10 e), (fun e => h.p11 e), (fun e => h.p12 e), (fun e => h.p13 e), (fun e => h.p14 e), (fun e => h.p15 e), (fun _ => rfl)⟩
              case rest =>
                obtain ⟨rfl, hbd⟩ := hcut
                obtain ⟨wF, rfl⟩ : ∃ y : World, y = wc := ⟨_, rfl⟩
                have HIF := Lib.hid (HIZ.out.below hbd)
                have HBD := Lib.hid hbd
                clear hbd HIZ
                cases tz
                case true =>
                  have hT0 : T = 0 := by simpa using HTZ.out
                  have HE := Lib.hid (show PuC w (cel1 L x ++ cel2 L x y ++ cel3 L x y (z + 1)) _ wF from by
                    rw [HC3.out, HCB.out, hT0]
                    simp only [ne_eq, not_true_eq_false, decide_false, Bool.false_and, Bool.false_eq_true, ↓reduceIte]
                    rw [HMM.out]
                    exact HIF.out)
                  clear hT0
                  go_wp2_with fail
                  go_roundw
                  case rel => exact ⟨z + 1, by omega, by omega, by go_num, HE.out⟩
                  case measure => simp [intOf]; omega
                case false =>
                  have hT0 : T ≠ 0 := by simpa using HTZ.out
                  have CC := Lib.hid (HCC.out wF HBD.out (by first | exact hT0 | (rw [HTE.out]; exact hT0)))
                  have HCB2 := Lib.hid (show celB L x y z = lowB L x y z n from by rw [HCB.out, decide_eq_true hT0, Bool.true_and])
                  clear hT0 HCB
                  generalize lowB L x y z n = LB at CC HCB2
                  generalize celB L x y z = CB at HCB2 HC3
                  generalize celL L x y z = CX at CC HC3 HCN HXL
                  have hws2 := HBD.out.size
                  go_wp2_with fail
                  refine CC.out.mono ?_
                  rintro e wG ⟨vc, rfl, hrow, hbG⟩
                  have hwsG := hbG.size
                  cases LB
                  case false =>
                    rw [if_neg (by simp)] at hrow
                    obtain ⟨adc, cpc, rfl, _⟩ := RowI.shape hrow
                    have HE := Lib.hid (show PuC w (cel1 L x ++ cel2 L x y ++ cel3 L x y (z + 1)) _ wG from by rw [HC3.out, HCB2.out, if_neg (by simp), HMM.out]; exact HIF.out.below hbG)
                    clear hrow
                    go_wp2_with fail
                    go_roundw
                    case rel => exact ⟨z + 1, by omega, by omega, by go_num, HE.out⟩
                    case measure => simp [intOf]; omega
                  case true =>
                    rw [if_pos rfl] at hrow
                    have hcx := (CellO.of_row hrow).mono (B' := w.heap.size) (by omega)
                    obtain ⟨adc, cpc, rfl, _⟩ := RowI.shape hrow
                    obtain ⟨NX, hNX⟩ : ∃ q, CX.length = q := ⟨_, rfl⟩
                    have hnx : 0 < NX := by rw [← hNX]; exact List.length_pos_iff.2 HCN.out
                    have HPU := Lib.hid (show Calls Tryz.prog 54 #[.slice ad3 N3 cp3, .slice adc NX cpc] wG (PutR w.heap.size (putF (M ++ [CX])) wG) from by
                      obtain ⟨vs, hm⟩ := (HIF.out.below hbG).ex
                      rw [← HN3.out] at hm
                      have h := cePut_c w.heap.size ad3 cp3 (putF M) vs adc cpc CX wG hm hcx (by omega) (by have := HLE.out; omega) (by have := HXL.out; omega) HRL.out
                      rw [HN3.out, hNX, ← putF_snoc] at h
                      exact h)
                    have HEQ := Lib.hid (show cel1 L x ++ cel2 L x y ++ cel3 L x y (z + 1) = M ++ [CX] from by rw [HC3.out, HCB2.out, if_pos rfl, ← List.append_assoc, HMM.out])
                    have HBG := Lib.hid ((HIF.out.below hbG).bel)
                    rw [hNX]
                    clear hrow hcx hNX HCN HLE HRL
                    go_wp2_with fail
                    refine HPU.out.mono ?_
                    rintro e wH ⟨ad5, cp5, vs5, rfl, hm5, hb5⟩
                    obtain ⟨N5, hN5⟩ : ∃ q, (putF (M ++ [CX])).length = q := ⟨_, rfl⟩
                    rw [hN5] at hm5 ⊢
                    have HE := Lib.hid (show PuC w (cel1 L x ++ cel2 L x y ++ cel3 L x y (z + 1)) (.slice ad5 N5 cp5) wH from ⟨⟨vs5, by rw [HEQ.out]; exact hm5⟩, ball HBG.out hb5⟩)
                    clear hm5 hN5
                    go_wp2_with fail
                    go_roundw
                    case rel => exact ⟨z + 1, by omega, by omega, by go_num, HE.out⟩
                    case measure => simp [intOf]; omega
end Go.Proofs.YtcionneopgdebaaGreat
