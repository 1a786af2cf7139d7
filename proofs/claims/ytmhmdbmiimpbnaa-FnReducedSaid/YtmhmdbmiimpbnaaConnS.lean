/-
  The reference's IsConnected: l1Put, chConnected.
-/
import Derived.Test.YtmhmdbmiimpbnaaConn
namespace Go.Proofs.Ytmhmdbmiimpbnaa
open Go.RowKit

/-- A list that may be cut: its room is known. -/
def RdC (w : World) (v : Value) (xs : List Int) : Prop := ∃ b off cap, v = .slice (some ⟨b, off, none⟩) xs.length cap ∧ xs.length ≤ cap ∧ RdI w (some ⟨b, off, none⟩) xs
theorem RdC.below {w w' : World} {v : Value} {xs : List Int} (h : RdC w v xs) (hb : Below w.heap.size w w') : RdC w' v xs := by
  obtain ⟨b, off, cap, e, h1, h2⟩ := h
  exact ⟨b, off, cap, e, h1, h2.below hb⟩
theorem RdI.drop {w : World} {b off : Nat} {xs : List Int} (h : RdI w (some ⟨b, off, none⟩) xs) (k : Nat) : RdI w (some ⟨b, off + k, none⟩) (xs.drop k) := fun j hj => by
  rw [List.length_drop] at hj
  obtain ⟨b', off', e, hb, c⟩ := h (k + j) (by omega)
  simp only [Option.some.injEq, Addr.mk.injEq, and_true] at e
  obtain ⟨rfl, rfl⟩ := e
  refine ⟨b, off + k, rfl, hb, ?_⟩
  rw [Nat.add_assoc, c]
  simp [List.getD]
theorem RdI.take {w : World} {b off : Nat} {xs : List Int} (h : RdI w (some ⟨b, off, none⟩) xs) (k : Nat) : RdI w (some ⟨b, off, none⟩) (xs.take k) := fun j hj => by
  rw [List.length_take] at hj
  obtain ⟨b', off', e, hb, c⟩ := h j (by omega)
  refine ⟨b', off', e, hb, ?_⟩
  rw [c]
  simp [List.getD, show j < k by omega]

/-- What l1Put gives back: its argument, or a list in new memory. -/
def PutTwo (w w' : World) (b off cap : Nat) (xs : List Int) (v : Value) (ys : List Int) : Prop :=
  (v = .slice (some ⟨b, off, none⟩) xs.length cap ∧ ys = xs) ∨ ∃ g cap', v = .slice (some ⟨g, 0, none⟩) ys.length cap' ∧ ys.length ≤ cap' ∧ w.heap.size ≤ g ∧ Own w' g 3 (ints ys)

set_option maxHeartbeats 800000 in
theorem l1Put_two (b off cap : Nat) (xs : List Int) (n : Int) (w : World) (hl : xs.length ≤ 1048576) (hc : xs.length ≤ cap) (hr : RdI w (some ⟨b, off, none⟩) xs) :
    Calls Try.prog 106 #[.slice (some ⟨b, off, none⟩) xs.length cap, .int .i64 n] w fun e w' => ∃ v, e = .returned v ∧ PutTwo w w' b off cap xs v (putL xs n) ∧ Below w.heap.size w w' := by
  have HR := Lib.hid hr; clear hr
  have HP := Lib.hid (fun (k : Nat) => putL_at (xs := xs) (n := n) (k := k))
  obtain ⟨i0, hi0, hz0, hz1, hz2⟩ := info_parts Try.infoI
  go_enter Try.func106, Try.ntmps106
  go_wp2
  go_loop [5] (fun i => ∃ k : Nat, k ≤ xs.length ∧ i = .int .i64 k ∧ ∀ j, j < k → xs.getD j 0 < n) (fun i => xs.length - (intOf i).toNat)
  case atStart => exact ⟨0, Nat.zero_le _, rfl, fun j hj => by omega⟩
  case round =>
    obtain ⟨k, hk, rfl, hlow⟩ := hrel
    have HLow := Lib.hid hlow; clear hlow
    have hput := fun h => HP.out k hk HLow.out h
    have HPut := Lib.hid hput; clear hput
    by_cases hlt : k < xs.length
    · have c0 := HR.out.at hlt
      obtain ⟨x, hx⟩ : ∃ x, xs.getD k 0 = x := ⟨_, rfl⟩
      rw [hx] at c0
      have HX := Lib.hid hx; clear hx
      by_cases h1 : x < n
      · go_wp2
        go_round
        case rel =>
          refine ⟨k + 1, by omega, by go_num, fun j hj => ?_⟩
          by_cases e : j = k
          · subst e; rw [HX.out]; exact h1
          · exact HLow.out j (by omega)
        case measure => simp [intOf]; omega
      · by_cases h2 : x = n
        · have h2' : (x == n) = true := by simpa using h2
          have hres : Hid (putL xs n = xs) := by
            show _ = _
            rw [HPut.out (fun _ => by rw [HX.out]; omega), if_pos ⟨hlt, by rw [HX.out]; exact h2⟩]
          subst h2
          go_wp2
          go_ret
          exact ⟨_, rfl, Or.inl ⟨rfl, hres.out⟩, Below.refl _ _⟩
        · have h2' : (x == n) = false := by simpa using h2
          have hres : Hid (putL xs n = xs.take k ++ [n] ++ xs.drop k) := by
            show _ = _
            rw [HPut.out (fun _ => by rw [HX.out]; omega), if_neg (fun h => h2 (by rw [← HX.out]; exact h.2))]
          have hb0 : Below w.heap.size w (w.alloc (.cells #[] 3)) := (Below.refl _ _).alloc (Nat.le_refl _) _
          have HN1 := Lib.hid ((HR.out.below hb0).take k).news
          have HO := Lib.hid (row_empty w 3)
          have hk1 : (ints (xs.take k)).length = k * 1 := by rw [ints_length, List.length_take]; omega
          have hk2 : (ints (xs.drop k)).length = (xs.length - k) * 1 := by rw [ints_length, List.length_drop]; omega
          go_wp2_with (at_builtin; first
            | (refine wpList_append_own _ rfl _ _ 30 rfl w.heap.size 3 i0 _ 1 8 Try.underlying30 hi0 hz0 hz1 hz2 rfl (by decide) (.slice (some ⟨w.heap.size, 0, none⟩) 0 0) 0 [] rfl HO.out ⟨b, off, none⟩ k cap (ints (xs.take k)) rfl hk1 HN1.out (ints_oneCell _) (by unfold maxLen; omega) (by omega) (by simp) ?_; intro v1 w1 hown1 hgrow1 hnil1; clear hnil1; have hb1 := hb0.grown hgrow1 (by simp) (fun q e => by simp [Value.ownBlock] at e; omega); have hs1 := hb1.size; have HO1 := Lib.hid hown1; clear hown1)
            | (refine wpList_append_lies _ rfl _ _ 30 rfl w.heap.size 3 i0 _ 1 8 Try.underlying30 hi0 hz0 hz1 hz2 rfl (by omega) _ (0 + k) _ rfl (HO1.out.alloc _) ⟨w1.heap.size, 0, none⟩ 1 1 [.int .i64 n] rfl rfl (World.news_of_block (cs := #[.int .i64 n]) (t := 3) (fr := (0, 0)) (heap_alloc_new _ _)) (by simp [Value.oneCell']) (by omega) (by unfold maxLen; omega) (by omega) (by simp; omega) (w1.heap.size + 1) (by simp) ?_; intro g2 cap2 w2 hown2 hgrow2 hat2 hlt2; rw [Nat.zero_add] at hown2; have hb2 := (hb1.alloc hs1 (.cells #[.int .i64 n] 3)).grown hgrow2 (by simp; omega) (fun q e => (HO1.out.lt _ e).1); have hs2 := hb2.size; have HO2 := Lib.hid hown2; clear hown2; have HN2 := Lib.hid ((HR.out.below hb2).drop k).news)
            | (refine wpList_append_own _ rfl _ _ 30 rfl w.heap.size 3 i0 _ 1 8 Try.underlying30 hi0 hz0 hz1 hz2 rfl (by decide) (.slice (some ⟨g2, 0, none⟩) (k + 1) cap2) (k + 1) _ rfl HO2.out ⟨b, off + k, none⟩ (xs.length - k) (cap - k) (ints (xs.drop k)) rfl hk2 HN2.out (ints_oneCell _) (by unfold maxLen; omega) (by omega) hs2 ?_; intro v3 w3 hown3 hgrow3 hnil3; clear hnil3; have hb3 := hb2.grown hgrow3 hs2 (fun q e => (HO2.out.lt _ e).1); have HO3 := Lib.hid hown3; clear hown3))
          go_ret
          rcases Own.of_row HO3.out with ⟨_, h0, _⟩ | ⟨g, cap3, rfl, hg, hc3, _, ho⟩
          · omega
          have hlen : k + 1 + (xs.length - k) = (putL xs n).length := by rw [hres.out]; simp; omega
          have ho' := ho.congr (cs' := ints (putL xs n)) (by rw [hres.out]; simp [ints])
          exact ⟨_, rfl, Or.inr ⟨g, cap3, by rw [← hlen]; rfl, by omega, hg, ho'⟩, hb3⟩
    · have hres : Hid (putL xs n = xs.take k ++ [n] ++ xs.drop k) := by
        show _ = _
        rw [HPut.out (fun _ => by omega), if_neg (fun h => hlt h.1)]
      have hb0 : Below w.heap.size w (w.alloc (.cells #[] 3)) := (Below.refl _ _).alloc (Nat.le_refl _) _
      have HN1 := Lib.hid ((HR.out.below hb0).take k).news
      have HO := Lib.hid (row_empty w 3)
      have hk1 : (ints (xs.take k)).length = k * 1 := by rw [ints_length, List.length_take]; omega
      have hk2 : (ints (xs.drop k)).length = (xs.length - k) * 1 := by rw [ints_length, List.length_drop]; omega
      by_cases hkc : k < cap
      · go_wp2_with (at_builtin; first
          | (refine wpList_append_own _ rfl _ _ 30 rfl w.heap.size 3 i0 _ 1 8 Try.underlying30 hi0 hz0 hz1 hz2 rfl (by decide) (.slice (some ⟨w.heap.size, 0, none⟩) 0 0) 0 [] rfl HO.out ⟨b, off, none⟩ k cap (ints (xs.take k)) rfl hk1 HN1.out (ints_oneCell _) (by unfold maxLen; omega) (by omega) (by simp) ?_; intro v1 w1 hown1 hgrow1 hnil1; clear hnil1; have hb1 := hb0.grown hgrow1 (by simp) (fun q e => by simp [Value.ownBlock] at e; omega); have hs1 := hb1.size; have HO1 := Lib.hid hown1; clear hown1)
          | (refine wpList_append_lies _ rfl _ _ 30 rfl w.heap.size 3 i0 _ 1 8 Try.underlying30 hi0 hz0 hz1 hz2 rfl (by omega) _ (0 + k) _ rfl (HO1.out.alloc _) ⟨w1.heap.size, 0, none⟩ 1 1 [.int .i64 n] rfl rfl (World.news_of_block (cs := #[.int .i64 n]) (t := 3) (fr := (0, 0)) (heap_alloc_new _ _)) (by simp [Value.oneCell']) (by omega) (by unfold maxLen; omega) (by omega) (by simp; omega) (w1.heap.size + 1) (by simp) ?_; intro g2 cap2 w2 hown2 hgrow2 hat2 hlt2; rw [Nat.zero_add] at hown2; have hb2 := (hb1.alloc hs1 (.cells #[.int .i64 n] 3)).grown hgrow2 (by simp; omega) (fun q e => (HO1.out.lt _ e).1); have hs2 := hb2.size; have HO2 := Lib.hid hown2; clear hown2; have HN2 := Lib.hid ((HR.out.below hb2).drop k).news)
          | (refine wpList_append_own _ rfl _ _ 30 rfl w.heap.size 3 i0 _ 1 8 Try.underlying30 hi0 hz0 hz1 hz2 rfl (by decide) (.slice (some ⟨g2, 0, none⟩) (k + 1) cap2) (k + 1) _ rfl HO2.out ⟨b, off + k, none⟩ (xs.length - k) (cap - k) (ints (xs.drop k)) rfl hk2 HN2.out (ints_oneCell _) (by unfold maxLen; omega) (by omega) hs2 ?_; intro v3 w3 hown3 hgrow3 hnil3; clear hnil3; have hb3 := hb2.grown hgrow3 hs2 (fun q e => (HO2.out.lt _ e).1); have HO3 := Lib.hid hown3; clear hown3))
        go_ret
        rcases Own.of_row HO3.out with ⟨_, h0, _⟩ | ⟨g, cap3, rfl, hg, hc3, _, ho⟩
        · omega
        have hlen : k + 1 + (xs.length - k) = (putL xs n).length := by rw [hres.out]; simp; omega
        have ho' := ho.congr (cs' := ints (putL xs n)) (by rw [hres.out]; simp [ints])
        exact ⟨_, rfl, Or.inr ⟨g, cap3, by rw [← hlen]; rfl, by omega, hg, ho'⟩, hb3⟩
      · go_wp2_with (at_builtin; first
          | (refine wpList_append_own _ rfl _ _ 30 rfl w.heap.size 3 i0 _ 1 8 Try.underlying30 hi0 hz0 hz1 hz2 rfl (by decide) (.slice (some ⟨w.heap.size, 0, none⟩) 0 0) 0 [] rfl HO.out ⟨b, off, none⟩ k cap (ints (xs.take k)) rfl hk1 HN1.out (ints_oneCell _) (by unfold maxLen; omega) (by omega) (by simp) ?_; intro v1 w1 hown1 hgrow1 hnil1; clear hnil1; have hb1 := hb0.grown hgrow1 (by simp) (fun q e => by simp [Value.ownBlock] at e; omega); have hs1 := hb1.size; have HO1 := Lib.hid hown1; clear hown1)
          | (refine wpList_append_lies _ rfl _ _ 30 rfl w.heap.size 3 i0 _ 1 8 Try.underlying30 hi0 hz0 hz1 hz2 rfl (by omega) _ (0 + k) _ rfl (HO1.out.alloc _) ⟨w1.heap.size, 0, none⟩ 1 1 [.int .i64 n] rfl rfl (World.news_of_block (cs := #[.int .i64 n]) (t := 3) (fr := (0, 0)) (heap_alloc_new _ _)) (by simp [Value.oneCell']) (by omega) (by unfold maxLen; omega) (by omega) (by simp; omega) (w1.heap.size + 1) (by simp) ?_; intro g2 cap2 w2 hown2 hgrow2 hat2 hlt2; rw [Nat.zero_add] at hown2; have hb2 := (hb1.alloc hs1 (.cells #[.int .i64 n] 3)).grown hgrow2 (by simp; omega) (fun q e => (HO1.out.lt _ e).1); have hs2 := hb2.size; have HO2 := Lib.hid hown2; clear hown2; have HN2 := Lib.hid ((HR.out.below hb2).drop k).news)
          | (refine wpList_append_own _ rfl _ _ 30 rfl w.heap.size 3 i0 _ 1 8 Try.underlying30 hi0 hz0 hz1 hz2 rfl (by decide) (.slice (some ⟨g2, 0, none⟩) (k + 1) cap2) (k + 1) _ rfl HO2.out _ (xs.length - k) _ (ints (xs.drop k)) rfl hk2 (fun j u h => absurd h (by rw [List.drop_eq_nil_of_le (by omega)]; simp [ints])) (ints_oneCell _) (by unfold maxLen; omega) (by omega) hs2 ?_; intro v3 w3 hown3 hgrow3 hnil3; clear hnil3; have hb3 := hb2.grown hgrow3 hs2 (fun q e => (HO2.out.lt _ e).1); have HO3 := Lib.hid hown3; clear hown3))
        go_ret
        rcases Own.of_row HO3.out with ⟨_, h0, _⟩ | ⟨g, cap3, rfl, hg, hc3, _, ho⟩
        · omega
        have hlen : k + 1 + (xs.length - k) = (putL xs n).length := by rw [hres.out]; simp; omega
        have ho' := ho.congr (cs' := ints (putL xs n)) (by rw [hres.out]; simp [ints])
        exact ⟨_, rfl, Or.inr ⟨g, cap3, by rw [← hlen]; rfl, by omega, hg, ho'⟩, hb3⟩

theorem l1Put_any (b off cap : Nat) (xs : List Int) (n : Int) (w : World) (hl : xs.length ≤ 1048576) (hc : xs.length ≤ cap) (hr : RdI w (some ⟨b, off, none⟩) xs) :
    Calls Try.prog 106 #[.slice (some ⟨b, off, none⟩) xs.length cap, .int .i64 n] w fun e w' => ∃ v, e = .returned v ∧ RdC w' v (putL xs n) ∧ Below w.heap.size w w' := by
  refine (l1Put_two b off cap xs n w hl hc hr).mono ?_
  rintro e w' ⟨v, he, hv, hb⟩
  refine ⟨v, he, ?_, hb⟩
  rcases hv with ⟨rfl, h⟩ | ⟨g, cap', rfl, hc', _, ho⟩
  · exact ⟨b, off, cap, by rw [h], by rw [h]; exact hc, by rw [h]; exact hr.below hb⟩
  · exact ⟨g, 0, cap', rfl, hc', ho.rd⟩

def lenOf : Value → Nat
  | .slice _ n _ => n
  | _ => 0
def oneOf : Value → Nat
  | .bool true => 1
  | _ => 0
/-- The reference's list on its way. -/
structure Seen (n : Int) (ls : List Lk) (w : World) (v : Value) (xs : List Int) : Prop where
  rd : RdC w v xs
  ris : Ris 0 n xs
  zero : (0 : Int) ∈ xs
  reach : ∀ y ∈ xs, Reach ls y
theorem Seen.below {n : Int} {ls : List Lk} {w w' : World} {v : Value} {xs : List Int} (h : Seen n ls w v xs) (hb : Below w.heap.size w w') : Seen n ls w' v xs := ⟨h.rd.below hb, h.ris, h.zero, h.reach⟩

theorem Seen.put {n : Int} {ls : List Lk} {w w' : World} {v v' : Value} {ys : List Int} {a b : Int} (h : Seen n ls w v ys) (hrd : RdC w' v' (putL (putL ys a) b)) (ha0 : 0 ≤ a) (ha1 : a < n) (hb0 : 0 ≤ b) (hb1 : b < n)
    (hra : Reach ls a ↔ Reach ls b) (hne : ¬ (a ∈ ys ↔ b ∈ ys)) : Seen n ls w' v' (putL (putL ys a) b) ∧ ys.length < (putL (putL ys a) b).length := by
  have r1 := putL_ris h.ris ha0 ha1
  have r2 := putL_ris r1 hb0 hb1
  have hab : Reach ls a ∧ Reach ls b := by
    by_cases q : a ∈ ys
    · exact ⟨h.reach _ q, hra.1 (h.reach _ q)⟩
    · by_cases q2 : b ∈ ys
      · exact ⟨hra.2 (h.reach _ q2), h.reach _ q2⟩
      · exact absurd ⟨fun e => absurd e q, fun e => absurd e q2⟩ hne
  refine ⟨⟨hrd, r2, (putL_mem _ _ _).2 (Or.inr ((putL_mem _ _ _).2 (Or.inr h.zero))), fun y hy => ?_⟩, ?_⟩
  · rcases (putL_mem _ _ _).1 hy with rfl | hy
    · exact hab.2
    · rcases (putL_mem _ _ _).1 hy with rfl | hy
      · exact hab.1
      · exact h.reach y hy
  · by_cases q : a ∈ ys
    · rw [putL_same h.ris q, putL_new h.ris (fun e => hne ⟨fun _ => e, fun _ => q⟩)]; omega
    · have := putL_new h.ris q
      have := (putL_len (putL ys a) b).1
      omega

set_option maxHeartbeats 1600000 in
set_option maxRecDepth 100000 in
theorem chConn_any (n : Int) (ad : Option Addr) (cap : Nat) (ls : List Lk) (w : World) (hl : ls.length ≤ 1048576) (hr : RdL w ad ls) (hg : goodL n ls = true) :
    Calls Try.prog 64 #[.int .i64 n, .slice ad ls.length cap] w fun e w' => e = .returned (.bool (connB n ls)) ∧ Below w.heap.size w w' := by
  obtain ⟨hn1, hn2⟩ := good_n hg
  have HGD := Lib.hid hg; clear hg
  have HRL := Lib.hid hr; clear hr
  go_enter Try.func64, Try.ntmps64
  go_wp2_with fail
  go_loopw [5, 6] (fun v g wr => ∃ xs : List Int, ∃ q : Bool, g = .bool q ∧ Seen n ls wr v xs ∧ (q = false → ∀ i, i < ls.length → ((ls.getD i Lk.z).a ∈ xs ↔ (ls.getD i Lk.z).b ∈ xs)) ∧ Below w.heap.size w wr) (fun v g _ => 2 * (n.toNat - lenOf v) + oneOf g)
  case atStart =>
    refine ⟨[0], true, rfl, ⟨⟨w.heap.size, 0, 1, rfl, by simp, ?_⟩, ⟨by omega, by omega, by simp [Ris]; omega⟩, by simp, fun y hy => by simp at hy; subst hy; exact Reach.zero ls⟩, fun h => by simp at h, (Below.refl _ _).alloc (Nat.le_refl _) _⟩
    exact (Own.newA w #[.int .i64 0] 3 (cs := ints [0]) rfl).rd
  case round =>
    obtain ⟨xs, q, rfl, hS, hcl, hbel⟩ := hrel
    cases q
    case false =>
      have hcl' := Lib.hid (hcl rfl); clear hcl
      obtain ⟨b0, off0, cap0, rfl, hcap, hrd⟩ := hS.rd
      have HS := Lib.hid hS; clear hS
      go_wp2_with fail
      go_ret
      exact ⟨ret_bool (by rw [conn_seen HS.out.ris HS.out.zero HS.out.reach hcl'.out]; first | rfl | exact Bool.beq_eq_decide_eq _ _ | trace_state), hbel⟩
    case true =>
      clear hcl
      have hsl := hS.ris.le
      obtain ⟨wo, rfl⟩ : ∃ wo : World, wo = wr := ⟨_, rfl⟩
      have HS := Lib.hid hS; clear hS
      have hbw := hbel; clear hbel
      obtain ⟨b0, off0, cap0, rfl, hcap, hrd⟩ := HS.out.rd
      have HS0 := HS
      clear hrd
      go_wp2_with fail
      go_loopw [5, 6, 13] (fun v g i wr => ∃ k : Nat, k ≤ ls.length ∧ i = .int .i64 k ∧ ∃ ys : List Int, ∃ q : Bool, g = .bool q ∧ Seen n ls wr v ys ∧ (q = false → ys = xs ∧ ∀ i, i < k → ((ls.getD i Lk.z).a ∈ xs ↔ (ls.getD i Lk.z).b ∈ xs)) ∧ (q = true → xs.length < ys.length) ∧ Below w.heap.size w wr) (fun _ _ i _ => ls.length - (intOf i).toNat)
      case atStart => exact ⟨0, Nat.zero_le _, rfl, xs, false, rfl, HS.out, fun _ => ⟨rfl, fun i hi => by omega⟩, fun h => by simp at h, hbw⟩
      case round =>
        obtain ⟨k, hk, rfl, ys, q, rfl, hY, hq0, hq1, hbel⟩ := hrel
        by_cases hlt : k < ls.length
        · obtain ⟨b, off, rfl, hb, c0, c1, c2⟩ := HRL.out k hlt
          have d0 := bcell hbel hb c0
          have d1 := bcell hbel hb c1
          have d2 := bcell hbel hb c2
          clear c0 c1 c2
          obtain ⟨xl, hx⟩ : ∃ xl, ls.getD k Lk.z = xl := ⟨_, rfl⟩
          obtain ⟨g1, g2, g3, g4, g5⟩ := good_lk HGD.out hlt hx
          rw [hx] at d0 d1 d2
          have hra : Reach ls xl.a ↔ Reach ls xl.b := by rw [← hx]; exact ⟨Reach.ab hlt, Reach.ba hlt⟩
          obtain ⟨xa, xb, xn⟩ := xl
          simp only at d0 d1 d2 g1 g2 g3 g4 g5 hra
          have HX := Lib.hid hx; clear hx
          have HRA := Lib.hid hra; clear hra
          obtain ⟨b1, off1, cap1, rfl, hcap1, hrd1⟩ := hY.rd
          have hyl := hY.ris.le
          have HY := Lib.hid hY; clear hY
          have HR1 := Lib.hid hrd1; clear hrd1
          have HQ0 := Lib.hid hq0; clear hq0
          have HQ1 := Lib.hid hq1; clear hq1
          have hyl2 : ys.length ≤ 1048576 := by omega
          have hbX := hbel.alloc hbel.size (.cells #[.int .i64 xa, .int .i64 xb, .int .i64 xn] 41)
          have hbY := (Below.refl wr.heap.size wr).alloc (Nat.le_refl _) (.cells #[.int .i64 xa, .int .i64 xb, .int .i64 xn] 41)
          obtain ⟨pA, hA⟩ : ∃ p, decide (xa ∈ ys) = p := ⟨_, rfl⟩
          by_cases hne : (xa ∈ ys ↔ xb ∈ ys)
          case pos =>
            have hB : decide (xb ∈ ys) = pA := by rw [← hA]; exact decide_eq_decide.2 hne.symm
            have HNE := Lib.hid hne; clear hne
            go_wp2_with fail
            go_quiet ((go_at_call 72; exact Calls.quiet_of_same ((l1Has_any _ _ _ _ _ hyl2 (HR1.out.below (bdrewN hbY _))).mono (fun e w' h => ⟨h.1, h.2.symm⟩))))
            go_wp2
            go_roundw
            case rel =>
              refine ⟨k + 1, by omega, by go_num, ys, q, rfl, HY.out.below (bdrewN hbY _), fun h => ⟨(HQ0.out h).1, fun i hi => ?_⟩, HQ1.out, bdrewN hbX _⟩
              by_cases e : i = k
              · subst e; rw [HX.out, ← (HQ0.out h).1]; exact HNE.out
              · exact (HQ0.out h).2 i (by omega)
            case measure => simp [intOf]; omega
          case neg =>
            have hB : decide (xb ∈ ys) = !pA := by rw [← hA]; by_cases qa : xa ∈ ys <;> by_cases qb : xb ∈ ys <;> simp [qa, qb] at hne ⊢
            have HNE := Lib.hid hne; clear hne
            go_wp2_with fail
            go_quiet ((go_at_call 72; exact Calls.quiet_of_same ((l1Has_any _ _ _ _ _ hyl2 (HR1.out.below (bdrewN hbY _))).mono (fun e w' h => ⟨h.1, h.2.symm⟩))))
            go_wp2_with fail
            have hK := (Own.newA wr #[.int .i64 xa, .int .i64 xb, .int .i64 xn] 41 rfl).drewN nq
            have hbZ := bdrewN hbY nq
            have hbZ2 := bdrewN hbX nq
            generalize (wr.alloc (.cells #[.int .i64 xa, .int .i64 xb, .int .i64 xn] 41)).drewN nq = W at hK hbZ hbZ2 ⊢
            have k0 : W.drew.cell? ⟨wr.heap.size, 0, none⟩ = some (.int .i64 xa) := hK.drew.cell? (i := 0) rfl
            have k1 : W.drew.cell? ⟨wr.heap.size, 1, none⟩ = some (.int .i64 xb) := hK.drew.cell? (i := 1) rfl
            have kl : wr.heap.size < W.drew.heap.size := hK.drew.lt
            have hpl := (putL_len ys xa).2
            clear hK
            have HR2 := Lib.hid (HR1.out.below hbZ.drew)
            go_region_held3 (fun w' => w'.cell? ⟨wr.heap.size, 0, none⟩ = some (.int .i64 xa) ∧ w'.cell? ⟨wr.heap.size, 1, none⟩ = some (.int .i64 xb)) (exact ⟨by assumption, by assumption⟩)
              (first
                | (go_at_call 106; (with_reducible refine (l1Put_any b1 off1 cap1 ys xa _ hyl2 hcap1 HR2.out).mono ?_); rintro e W1 ⟨v1, rfl, ⟨b2, off2, cap2, rfl, hcap2, hrd2⟩, hw1⟩; have hm0 := bcell hw1 kl k0; have hm1 := bcell hw1 kl k1; have HR3 := Lib.hid hrd2; clear hrd2)
                | (go_at_call 106; (with_reducible refine (l1Put_any b2 off2 cap2 (putL ys xa) xb _ (by omega) hcap2 HR3.out).mono ?_); rintro e W2 ⟨v2, rfl, hv2, hw2⟩; have hn0 := bcell hw2 (Nat.lt_of_lt_of_le kl hw1.size) hm0; have hn1 := bcell hw2 (Nat.lt_of_lt_of_le kl hw1.size) hm1; have HV2 := Lib.hid hv2; clear hv2))
            go_wp2
            go_roundw
            case rel =>
              obtain ⟨hS2, hgt⟩ := HY.out.put HV2.out g1 (by omega) (by omega) (by omega) HRA.out HNE.out
              refine ⟨k + 1, by omega, by go_num, _, true, rfl, hS2, fun h => by simp at h, fun _ => ?_, ((hbZ2.drew.trans (hw1.mono hbZ2.size)).trans (hw2.mono (Nat.le_trans hbZ2.size hw1.size)))⟩
              cases q with
              | true => exact Nat.lt_trans (HQ1.out rfl) hgt
              | false => rw [← (HQ0.out rfl).1]; exact hgt
            case measure => simp [intOf]; omega
        · have he : k = ls.length := by omega
          subst he
          have hyl := hY.ris.le
          obtain ⟨b1, off1, cap1, rfl, hcap1, hrd1⟩ := hY.rd
          have HY := Lib.hid hY; clear hY
          have HQ0 := Lib.hid hq0; clear hq0
          have HQ1 := Lib.hid hq1; clear hq1
          clear hrd1
          go_wp2
          go_roundw
          case rel => exact ⟨ys, q, rfl, HY.out, fun h i hi => by rw [(HQ0.out h).1]; exact (HQ0.out h).2 i hi, hbel⟩
          case measure =>
            simp [lenOf, oneOf]
            cases q with
            | true => have := HQ1.out rfl; simp; omega
            | false => rw [(HQ0.out rfl).1]; simp

end Go.Proofs.Ytmhmdbmiimpbnaa
