/-
  The reference's rdSets.
-/
import Derived.Test.YtmhmdbmiimpbnaaSets
namespace Go.Proofs.Ytmhmdbmiimpbnaa
open Go.RowKit

/-- A set as it is handed on: nil, or a slice that can be read. -/
def SetV (w : World) (v : Value) (s : List Int) : Prop := (v = .slice none 0 0 ∧ s = []) ∨ ∃ a cap, v = .slice (some a) s.length cap ∧ RdI w (some a) s
theorem SetV.below {w w' : World} {v : Value} {s : List Int} (h : SetV w v s) (hb : Below w.heap.size w w') : SetV w' v s := by
  rcases h with h | ⟨a, cap, e, h⟩
  · exact Or.inl h
  · exact Or.inr ⟨a, cap, e, h.below hb⟩

set_option maxHeartbeats 800000 in
theorem l1OwnR_any (v : Value) (s : List Int) (w : World) (hl : s.length ≤ 1048576) (h : SetV w v s) :
    Calls Try.prog 114 #[v] w fun e w' => ∃ u, e = .returned u ∧ w'.ownsRow w.heap.size 3 1 u s.length (ints s) ∧ Below w.heap.size w w' := by
  obtain ⟨i0, hi0, hz0, hz1, hz2⟩ := info_parts Try.infoI
  have hb0 : Below w.heap.size w (w.alloc (.cells #[] 3)) := (Below.refl _ _).alloc (Nat.le_refl _) _
  have HO := Lib.hid (row_empty w 3)
  rcases h with ⟨rfl, rfl⟩ | ⟨a, cap, rfl, hr⟩
  · go_enter Try.func114, Try.ntmps114
    go_wp2_with (at_builtin; refine wpList_append_own_none rfl _ _ 30 rfl w.heap.size 3 i0 1 Try.underlying30 hi0 (.slice (some ⟨w.heap.size, 0, none⟩) 0 0) 0 [] rfl HO.out rfl ?_)
    go_ret
    exact ⟨_, rfl, HO.out, hb0⟩
  · have hr1 := hr.below hb0
    have HN := Lib.hid hr1.news
    clear hr hr1
    go_enter Try.func114, Try.ntmps114
    go_wp2_with (at_builtin; refine wpList_append_own _ rfl _ _ 30 rfl w.heap.size 3 i0 _ 1 8 Try.underlying30 hi0 hz0 hz1 hz2 rfl (by decide) (.slice (some ⟨w.heap.size, 0, none⟩) 0 0) 0 [] rfl HO.out a s.length cap (ints s) rfl (by rw [ints_length]; omega) HN.out (ints_oneCell s) (by unfold maxLen; omega) (by omega) (by simp) ?_; intro v' w2 hown hgrow hnil)
    clear hnil
    go_ret
    exact ⟨_, rfl, row_congr hown (by omega) rfl, hb0.grown hgrow (by simp) (fun q e => by simp [Value.ownBlock] at e; omega)⟩

theorem own_news {w : World} {g : Nat} {E : TypeId} {cs : List Value} (h : Own w g E cs) : ∀ j u, cs[j]? = some u → w.cell? ((⟨g, 0, none⟩ : Addr).add j) = some u := fun j u hu => by
  have hadd : (⟨g, 0, none⟩ : Addr).add j = ⟨g, j, none⟩ := by unfold Addr.add; split <;> simp_all
  rw [hadd]
  exact h.cell? hu
theorem below_row {w wr w2 : World} {B : Nat} {E : TypeId} {size n : Nat} {v : Value} {xs : List Value} (hb : Below B w wr) (hB : B ≤ wr.heap.size) (ho : wr.ownsRow B E size v n xs) (hg : wr.grownBy w2 v.ownBlock) : Below B w w2 :=
  hb.grown hg hB (fun q e => (ho.lt q e).1)

set_option maxHeartbeats 3200000 in
set_option maxRecDepth 100000 in
theorem rdSets_any (N q : Nat) (hN : N ≤ 8) : ∀ (k v : Nat) (s : List Int) (sv : Value) (w : World), v + k = N → s.length ≤ v → SetV w sv s →
    Calls Try.prog 103 #[.int .i64 N, .int .i64 q, .int .i64 v, sv] w fun e w' => ∃ u vs, e = .returned u ∧ ORow w' w.heap.size u (sets q k v s) vs ∧ Below w.heap.size w w' := by
  intro k
  induction k using Nat.strongRecOn with
  | _ k ih =>
  intro v s sv w hvk hsl hset
  obtain ⟨i0, hi0, hz0, hz1, hz2⟩ := info_parts Try.infoI
  obtain ⟨i1, hi1, hy0, hy1, hy2⟩ := info_parts Try.infoII
  have HS := Lib.hid hset; clear hset
  have HIH := Lib.hid ih; clear ih
  have htot := sets_len q k v s
  have h2k : 2 ^ k ≤ 256 := Nat.le_trans (Nat.pow_le_pow_right (by omega) (show k ≤ 8 by omega)) (by decide)
  generalize h2 : 2 ^ k = P at htot h2k
  clear h2
  go_enter Try.func103, Try.ntmps103
  go_wp2_with fail
  go_loopw [9, 10] (fun vo i wr => ∃ x : Nat, v ≤ x ∧ x ≤ N ∧ i = .int .i64 x ∧ ∃ rows vs, ORow wr w.heap.size vo rows vs ∧ rows ++ sets q (N - x) x s = sets q k v s ∧ Below w.heap.size w wr) (fun _ i _ => N - (intOf i).toNat)
  case atStart => exact ⟨v, Nat.le_refl _, by omega, rfl, [], [], ORow.nil _ _, by rw [show N - v = k by omega]; rfl, Below.refl _ _⟩
  case round =>
    obtain ⟨x, hvx, hx, rfl, rows, vs, hrow, heq, hbel⟩ := hrel
    have hrl : rows.length ≤ 255 := by have := congrArg List.length heq; rw [List.length_append] at this; omega
    have hsz := hbel.size
    have HROW := Lib.hid hrow; clear hrow
    have HEQ := Lib.hid heq; clear heq
    obtain ⟨wo, rfl⟩ : ∃ wo : World, wo = wr := ⟨_, rfl⟩
    by_cases hlt : x < N
    case neg =>
      have he : x = N := by omega
      subst he
      go_wp2_with fail
      go_ret
      refine ⟨_, vs, rfl, ?_, hbel⟩
      have h1 := HROW.out
      have h2 := HEQ.out
      rw [Nat.sub_self] at h2
      simp only [sets, List.append_nil] at h2
      rw [← h2]
      exact h1
    case pos =>
      have hNx : N - x = (N - (x + 1)) + 1 := by omega
      by_cases hxq : x = q
      case pos =>
        have hd1 : ((x : Int) == (q : Int)) = true := by simp [hxq]
        have hst := Lib.hid (show rows ++ sets q (N - (x + 1)) (x + 1) s = sets q k v s by rw [← HEQ.out, hNx, sets_skip hxq])
        clear hxq
        go_wp2_with fail
        go_roundw
        case rel => exact ⟨x + 1, by omega, by omega, by go_num, rows, vs, HROW.out, hst.out, hbel⟩
        case measure => simp [intOf]; omega
      case neg =>
        have hd1 : ((x : Int) == (q : Int)) = false := by simpa using fun q => hxq (by omega)
        have hst := Lib.hid (show (rows ++ [s ++ [(x : Int)]] ++ sets q (N - (x + 1)) (x + 1) (s ++ [(x : Int)])) ++ sets q (N - (x + 1)) (x + 1) s = sets q k v s by rw [← HEQ.out, hNx, sets_take hxq]; simp)
        clear hxq
        have hlen2 : rows.length + 1 + (sets q (N - (x + 1)) (x + 1) (s ++ [(x : Int)])).length ≤ 255 := by
          have := congrArg List.length hst.out
          rw [List.length_append, List.length_append, List.length_append, List.length_singleton] at this
          omega
        go_wp2_with fail
        refine (l1OwnR_any sv s _ (by omega) (HS.out.below hbel)).mono ?_
        rintro e w2 ⟨u, rfl, hu, hb2⟩
        have hb12 := ball hbel hb2
        have HU := Lib.hid hu; clear hu
        have HROW2 := Lib.hid (HROW.out.below hb2)
        go_wp2_with (at_builtin; first
          | (refine wpList_append_lies _ rfl _ _ 30 rfl wo.heap.size 3 i0 _ 1 8 Try.underlying30 hi0 hz0 hz1 hz2 rfl (by omega) u s.length _ rfl (HU.out.alloc _) ⟨w2.heap.size, 0, none⟩ 1 1 [.int .i64 (x : Int)] rfl rfl (World.news_of_block (cs := #[.int .i64 (x : Int)]) (t := 3) (fr := (0, 0)) (heap_alloc_new _ _)) (by simp [Value.oneCell']) (by omega) (by unfold maxLen; omega) (by omega) (by have := hb2.size; simp; omega) (w2.heap.size + 1) (by simp) ?_; intro gg gcap w3 hown3 hgrow3 hat3 hlt3; have hb13 := app_below hb2 hb2.size HU.out hgrow3; clear hat3 hgrow3; have hsz3 := hb13.size; have HROW3 := Lib.hid (HROW.out.below hb13); have HR3 := Lib.hid (ResI.of_row (row_congr (ys := ints (s ++ [(x : Int)])) hown3 rfl (by simp [ints]))); clear hown3)
          | (refine wpList_append_lies _ rfl _ _ 27 rfl w.heap.size 30 i1 _ 1 24 Try.underlying27 hi1 hy0 hy1 hy2 rfl (by omega) u9 rows.length vs rfl (HROW3.out.row.alloc _) ⟨w3.heap.size, 0, none⟩ 1 1 [.slice (some ⟨gg, 0, none⟩) (s.length + 1) gcap] rfl rfl (World.news_of_block (cs := #[.slice (some ⟨gg, 0, none⟩) (s.length + 1) gcap]) (t := 30) (fr := (0, 0)) (heap_alloc_new _ _)) (by simp [Value.oneCell']) (by omega) (by unfold maxLen; omega) (by omega) (by simp; omega) (w3.heap.size + 1) (by simp) ?_; intro g4 cap4 w4 hown4 hgrow4 hat4 hlt4; clear hat4))
        have hgz : w3.heap.size ≤ w4.heap.size := by have := hgrow4.size; simp at this; omega
        have hb34 : Below w.heap.size w3 w4 := app_below (Below.refl _ _) (by omega) HROW3.out.row hgrow4
        have hr4 : ResI w4 wo.heap.size 3 (.slice (some ⟨gg, 0, none⟩) (s.length + 1) gcap) (s ++ [(x : Int)]) := (HR3.out.below ((Below.refl _ _).alloc (Nat.le_refl _) _)).grown hgrow4 (fun q hq => HR3.out.apart HROW3.out.row hq)
        have hrow4 : ORow w4 w.heap.size (.slice (some ⟨g4, 0, none⟩) (rows.length + 1) cap4) (rows ++ [s ++ [(x : Int)]]) (vs ++ [.slice (some ⟨gg, 0, none⟩) (s.length + 1) gcap]) :=
          (HROW3.out.below ((Below.refl _ _).alloc (Nat.le_refl _) _)).app rfl (fun i hi => by
            have : i = 0 := by simpa using hi
            subst this
            exact (HR3.out.below ((Below.refl _ _).alloc (Nat.le_refl _) _)).mono hsz) (fun i j hi hj hij => by simp at hi hj; omega) (fun i j hi hj q hq hq2 => by
            have : j = 0 := by simpa using hj
            subst this
            have h1 := (HROW.out.each i hi).lt hq
            have h2 := HR3.out.lt (q := q) hq2
            omega) hown4 hgrow4
        clear hown4 hgrow4
        have hset4 : SetV w4 (.slice (some ⟨gg, 0, none⟩) (s.length + 1) gcap) (s ++ [(x : Int)]) := by
          rcases hr4 with ⟨e, _⟩ | ⟨g', cap', e, _, ho⟩
          · simp at e
          · simp only [Value.slice.injEq, Option.some.injEq, Addr.mk.injEq, and_true] at e
            obtain ⟨rfl, _, rfl⟩ := e
            exact Or.inr ⟨⟨gg, 0, none⟩, gcap, by simp, ho.rd⟩
        have hih := HIH.out (N - (x + 1)) (by omega) (x + 1) (s ++ [(x : Int)]) (.slice (some ⟨gg, 0, none⟩) (s.length + 1) gcap) w4 (by omega) (by simp; omega) hset4
        rw [show (((x + 1 : Nat)) : Int) = (x : Int) + 1 by omega] at hih
        have HROW4 := Lib.hid hrow4; clear hrow4
        clear hset4 hr4
        have hb4 := (ball hb12 (Below.refl _ _))
        refine hih.mono ?_
        clear hih
        rintro e w5 ⟨u5, vs5, rfl, h5, hb5⟩
        have hbw4 : Below w.heap.size w w4 := (hbel.trans (hb13.mono hbel.size)).trans (hb34.mono (by omega))
        have hbw5 := ball hbw4 hb5
        have HROW5 := Lib.hid (HROW4.out.below hb5)
        have hl5 := h5.len
        have h4z : w.heap.size ≤ w4.heap.size := by omega
        have h5z := hb5.size
        rcases Own.of_row h5.row with ⟨rfl, h0, _⟩ | ⟨g5, cap5, rfl, hg5, hc5, _, ho5⟩
        · have hnil : sets q (N - (x + 1)) (x + 1) (s ++ [(x : Int)]) = [] := List.length_eq_zero_iff.1 h0
          have hst2 := Lib.hid (show (rows ++ [s ++ [(x : Int)]]) ++ sets q (N - (x + 1)) (x + 1) s = sets q k v s by have := hst.out; rw [hnil, List.append_nil] at this; exact this)
          clear h5 h0 hnil hl5
          go_wp2_with (at_builtin; refine wpList_append_own_none rfl _ _ 27 rfl w.heap.size 30 i1 1 Try.underlying27 hi1 (.slice (some ⟨g4, 0, none⟩) (rows.length + 1) cap4) _ _ rfl HROW5.out.row rfl ?_)
          go_roundw
          case rel => exact ⟨x + 1, by omega, by omega, by go_num, _, _, HROW5.out, hst2.out, hbw5⟩
          case measure => simp [intOf]; omega
        · have hone : ∀ u ∈ vs5, u.oneCell' = true := fun u hu => by
            obtain ⟨j, hj, e⟩ := List.getElem_of_mem hu
            have h6 := h5.each j (by omega)
            rw [List.getD_eq_getElem?_getD, List.getElem?_eq_getElem hj, Option.getD_some, e] at h6
            rcases h6 with ⟨rfl, _⟩ | ⟨_, _, rfl, _⟩ <;> rfl
          have HNEWS := Lib.hid (own_news ho5)
          have HONE := Lib.hid hone; clear hone
          have H5 := Lib.hid h5; clear h5 ho5
          generalize hsub : sets q (N - (x + 1)) (x + 1) (s ++ [(x : Int)]) = sub at *
          have hrl4 : (rows ++ [s ++ [(x : Int)]]).length = rows.length + 1 := by simp
          go_wp2_with (at_builtin; refine wpList_append_own _ rfl _ _ 27 rfl w.heap.size 30 i1 _ 1 24 Try.underlying27 hi1 hy0 hy1 hy2 rfl (by decide) (.slice (some ⟨g4, 0, none⟩) (rows.length + 1) cap4) (rows.length + 1) _ rfl (row_congr HROW5.out.row hrl4 rfl) ⟨g5, 0, none⟩ sub.length cap5 vs5 rfl (by omega) HNEWS.out HONE.out (by unfold maxLen; omega) (by omega) (by omega) ?_; intro v6 w6 hown6 hgrow6 hnil6; clear hnil6)
          have hrow6 := HROW5.out.app hl5 (fun i hi => (H5.out.each i hi).mono h4z) H5.out.apart (fun i j hi hj q hq hq2 => by
            have h1 := (HROW4.out.each i hi).lt hq
            have h2 := (H5.out.each j hj).lt (q := q) hq2
            omega) (row_congr hown6 (by rw [hrl4]) rfl) hgrow6
          have hb6 := below_row hbw5 (by omega) HROW5.out.row hgrow6
          have HROW6 := Lib.hid hrow6; clear hrow6
          go_roundw
          case rel => exact ⟨x + 1, by omega, by omega, by go_num, _, _, HROW6.out, hst.out, hb6⟩
          case measure => simp [intOf]; omega

end Go.Proofs.Ytmhmdbmiimpbnaa
