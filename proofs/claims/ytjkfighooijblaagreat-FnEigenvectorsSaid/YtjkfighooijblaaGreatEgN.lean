/-
  Rising lists, a number put in one, and a queue. By an AI agent.
-/
import Derived.Test.YtjkfighooijblaaGreatWyT
import Derived.ArgAppend
import Derived.Deep.AppendLies
namespace Go.Proofs.YtjkfighooijblaaGreat
open Go.RowKit

/-- A strictly rising list of numbers in [lo, hi). -/
def Ris : Int → Int → List Int → Prop
  | lo, hi, [] => lo ≤ hi
  | lo, hi, x :: t => lo ≤ x ∧ x < hi ∧ Ris (x + 1) hi t
theorem Ris.le : ∀ {xs : List Int} {lo hi : Int}, Ris lo hi xs → lo + xs.length ≤ hi
  | [], _, _, h => by simpa [Ris] using h
  | x :: t, lo, hi, h => by
    obtain ⟨h1, h2, h3⟩ := h
    have := h3.le
    simp only [List.length_cons]; omega
theorem Ris.bound : ∀ {xs : List Int} {lo hi : Int}, Ris lo hi xs → ∀ y ∈ xs, lo ≤ y ∧ y < hi
  | [], _, _, _, y, hy => by simp at hy
  | x :: t, lo, hi, h, y, hy => by
    obtain ⟨h1, h2, h3⟩ := h
    rcases List.mem_cons.1 hy with rfl | hy
    · exact ⟨h1, h2⟩
    · have := h3.bound y hy; omega
theorem Ris.mono : ∀ {xs : List Int} {lo lo' hi : Int}, Ris lo hi xs → lo' ≤ lo → Ris lo' hi xs
  | [], _, _, _, h, hl => by simp only [Ris] at h ⊢; omega
  | _ :: _, _, _, _, ⟨h1, h2, h3⟩, hl => ⟨by omega, h2, h3⟩
theorem Ris.full : ∀ {xs : List Int} {lo hi : Int}, Ris lo hi xs → (lo + xs.length = hi ↔ ∀ y, lo ≤ y → y < hi → y ∈ xs)
  | [], lo, hi, h => by
    simp only [Ris] at h
    constructor
    · intro e y h1 h2; simp at e; omega
    · intro k
      by_cases e : lo = hi
      · simpa using e
      · exact absurd (k lo (Int.le_refl _) (by omega)) (by simp)
  | x :: t, lo, hi, ⟨h1, h2, h3⟩ => by
    have hl := h3.le
    have ih := h3.full
    constructor
    · intro e y hy1 hy2
      simp only [List.length_cons] at e
      have hx : x = lo := by omega
      subst hx
      by_cases hyx : y = x
      · subst hyx; exact List.mem_cons_self
      · exact List.mem_cons_of_mem _ (ih.1 (by omega) y (by omega) hy2)
    · intro k
      have hx : x = lo := by
        rcases List.mem_cons.1 (k lo (Int.le_refl _) (by omega)) with e | e
        · exact e.symm
        · have := h3.bound _ e; omega
      subst hx
      have := ih.2 fun y hy1 hy2 => by
        rcases List.mem_cons.1 (k y (by omega) hy2) with e | e
        · omega
        · exact e
      simp only [List.length_cons]; omega
/-- A number put into a rising list. -/
def putL : List Int → Int → List Int
  | [], n => [n]
  | x :: t, n => if x < n then x :: putL t n else if x = n then x :: t else n :: x :: t
theorem putL_mem : ∀ (xs : List Int) (n y : Int), y ∈ putL xs n ↔ y = n ∨ y ∈ xs
  | [], n, y => by simp [putL]
  | x :: t, n, y => by
    unfold putL
    split
    · rw [List.mem_cons, putL_mem t n y, List.mem_cons]
      constructor
      · rintro (h | h | h); exact Or.inr (Or.inl h); exact Or.inl h; exact Or.inr (Or.inr h)
      · rintro (h | h | h); exact Or.inr (Or.inl h); exact Or.inl h; exact Or.inr (Or.inr h)
    · split
      · rename_i h; subst h; simp [List.mem_cons]
      · simp [List.mem_cons]
theorem putL_ris : ∀ {xs : List Int} {n lo hi : Int}, Ris lo hi xs → lo ≤ n → n < hi → Ris lo hi (putL xs n)
  | [], n, lo, hi, h, h1, h2 => by simp only [Ris, putL] at h ⊢; omega
  | x :: t, n, lo, hi, ⟨a, b, c⟩, h1, h2 => by
    unfold putL
    split
    · exact ⟨a, b, putL_ris c (by omega) h2⟩
    · split
      · exact ⟨a, b, c⟩
      · exact ⟨h1, h2, by omega, b, c⟩
theorem putL_len : ∀ (xs : List Int) (n : Int), xs.length ≤ (putL xs n).length ∧ (putL xs n).length ≤ xs.length + 1
  | [], n => by simp [putL]
  | x :: t, n => by
    have := putL_len t n
    unfold putL
    split
    · simp only [List.length_cons]; omega
    · split <;> simp
theorem putL_new : ∀ {xs : List Int} {n lo hi : Int}, Ris lo hi xs → n ∉ xs → (putL xs n).length = xs.length + 1
  | [], n, _, _, _, _ => by simp [putL]
  | x :: t, n, lo, hi, ⟨a, b, c⟩, hm => by
    have h1 : x ≠ n := fun e => hm (by rw [e]; exact List.mem_cons_self)
    have ih := putL_new c (fun e => hm (List.mem_cons_of_mem _ e))
    unfold putL
    split
    · simp only [List.length_cons, ih]
    · simp
theorem putL_same : ∀ {xs : List Int} {n lo hi : Int}, Ris lo hi xs → n ∈ xs → putL xs n = xs
  | [], n, _, _, _, hm => by simp at hm
  | x :: t, n, lo, hi, ⟨a, b, c⟩, hm => by
    unfold putL
    rcases List.mem_cons.1 hm with e | e
    · subst e; rw [if_neg (by omega), if_pos rfl]
    · have := c.bound _ e
      rw [if_pos (by omega), putL_same c e]
/-- How a walk over the list finds the place. -/
theorem putL_at : ∀ {xs : List Int} {n : Int} {k : Nat}, k ≤ xs.length → (∀ j, j < k → xs.getD j 0 < n) → (k < xs.length → n ≤ xs.getD k 0) →
    putL xs n = if k < xs.length ∧ xs.getD k 0 = n then xs else xs.take k ++ [n] ++ xs.drop k
  | [], n, k, hk, h1, h2 => by simp only [List.length_nil, Nat.le_zero] at hk; subst hk; simp [putL]
  | x :: t, n, 0, hk, h1, h2 => by
    have := h2 (by simp)
    simp only [List.getD_cons_zero] at this
    unfold putL
    rw [if_neg (by omega)]
    by_cases e : x = n
    · rw [if_pos e, if_pos ⟨by simp, by simpa using e⟩]
    · rw [if_neg e, if_neg (by simp [e])]; simp
  | x :: t, n, k + 1, hk, h1, h2 => by
    have h0 := h1 0 (by omega)
    simp only [List.getD_cons_zero] at h0
    have ih := putL_at (xs := t) (n := n) (k := k) (by simpa using hk) (fun j hj => by have := h1 (j + 1) (by omega); simpa using this) (fun hlt => by have := h2 (by simpa using hlt); simpa using this)
    unfold putL
    rw [if_pos h0, ih]
    simp only [List.length_cons, List.getD_cons_succ, Nat.add_lt_add_iff_right]
    split
    · rfl
    · simp
theorem ris_ext : ∀ {xs ys : List Int} {lo lo' hi hi' : Int}, Ris lo hi xs → Ris lo' hi' ys → (∀ y, y ∈ xs ↔ y ∈ ys) → xs = ys
  | [], [], _, _, _, _, _, _, _ => rfl
  | [], y :: t, _, _, _, _, _, _, h => absurd ((h y).2 List.mem_cons_self) (by simp)
  | x :: s, [], _, _, _, _, _, _, h => absurd ((h x).1 List.mem_cons_self) (by simp)
  | x :: s, y :: t, _, _, _, _, ⟨a1, a2, a3⟩, ⟨b1, b2, b3⟩, h => by
    have e : x = y := by
      rcases List.mem_cons.1 ((h x).1 List.mem_cons_self) with q | q
      · exact q
      · rcases List.mem_cons.1 ((h y).2 List.mem_cons_self) with q' | q'
        · exact q'.symm
        · have := b3.bound _ q; have := a3.bound _ q'; omega
    subst e
    have ht := ris_ext a3 b3 fun z => by
      constructor
      · intro hz
        have := a3.bound _ hz
        rcases List.mem_cons.1 ((h z).1 (List.mem_cons_of_mem _ hz)) with q | q
        · omega
        · exact q
      · intro hz
        have := b3.bound _ hz
        rcases List.mem_cons.1 ((h z).2 (List.mem_cons_of_mem _ hz)) with q | q
        · omega
        · exact q
    rw [ht]
theorem ris_snoc : ∀ {xs : List Int} {lo hi z : Int}, Ris lo hi xs → hi ≤ z → Ris lo (z + 1) (xs ++ [z])
  | [], lo, hi, z, h, hz => by simp only [Ris, List.nil_append] at h ⊢; omega
  | x :: t, lo, hi, z, ⟨h1, h2, h3⟩, hz => ⟨h1, by omega, ris_snoc h3 hz⟩
theorem ris_up : ∀ {xs : List Int} {lo hi hi' : Int}, Ris lo hi xs → hi ≤ hi' → Ris lo hi' xs
  | [], _, _, _, h, hz => by simp only [Ris] at h ⊢; omega
  | x :: t, lo, hi, _, ⟨h1, h2, h3⟩, hz => ⟨h1, by omega, ris_up h3 hz⟩
theorem RdI.news {w : World} {a : Addr} {xs : List Int} (h : RdI w (some a) xs) : ∀ j u, (ints xs)[j]? = some u → w.cell? (a.add j) = some u := by
  intro j u hu
  have hj : j < xs.length := by
    have := List.getElem?_eq_some_iff.1 hu
    obtain ⟨h1, _⟩ := this
    rwa [ints_length] at h1
  obtain ⟨b, off, e, _, hc⟩ := h j hj
  cases e
  rw [ints_get hj] at hu
  have hadd : (⟨b, off, none⟩ : Addr).add j = ⟨b, off + j, none⟩ := by unfold Addr.add; split <;> simp_all
  rw [hadd, hc]
  exact hu
/-- A list that may be cut: its room is known. -/
def RdC (w : World) (v : Value) (xs : List Int) : Prop := ∃ b off cap, v = .slice (some ⟨b, off, none⟩) xs.length cap ∧ xs.length ≤ cap ∧ RdI w (some ⟨b, off, none⟩) xs
theorem RdC.below {w w' : World} {v : Value} {xs : List Int} (h : RdC w v xs) (hb : Below w.heap.size w w') : RdC w' v xs := by
  obtain ⟨b, off, cap, e, h1, h2⟩ := h
  exact ⟨b, off, cap, e, h1, h2.below hb⟩
theorem RdI.drop {w : World} {b off : Nat} {xs : List Int} (h : RdI w (some ⟨b, off, none⟩) xs) (k : Nat) : RdI w (some ⟨b, off + k, none⟩) (xs.drop k) := fun j hj => by
  rw [List.length_drop] at hj
  obtain ⟨b', off', e, hb, c⟩ := h (k + j) (by omega)
  simp only [Option.some.injEq, Addr.mk.injEq, and_true] at e
  obtain ⟨rfl, rfl⟩ := e
  refine ⟨b, off + k, rfl, hb, ?_⟩
  rw [Nat.add_assoc, c]
  simp [List.getD]
theorem RdI.take {w : World} {b off : Nat} {xs : List Int} (h : RdI w (some ⟨b, off, none⟩) xs) (k : Nat) : RdI w (some ⟨b, off, none⟩) (xs.take k) := fun j hj => by
  rw [List.length_take] at hj
  obtain ⟨b', off', e, hb, c⟩ := h j (by omega)
  refine ⟨b', off', e, hb, ?_⟩
  rw [c]
  simp [List.getD, show j < k by omega]
/-- What l1Put gives back: its argument, or a list in new memory. -/
def PutTwo (w w' : World) (b off cap : Nat) (xs : List Int) (v : Value) (ys : List Int) : Prop :=
  (v = .slice (some ⟨b, off, none⟩) xs.length cap ∧ ys = xs) ∨ ∃ g cap', v = .slice (some ⟨g, 0, none⟩) ys.length cap' ∧ ys.length ≤ cap' ∧ w.heap.size ≤ g ∧ Own w' g 3 (ints ys)
set_option maxHeartbeats 800000 in
theorem l1Put_two (b off cap : Nat) (xs : List Int) (n : Int) (w : World) (hl : xs.length ≤ 1048576) (hc : xs.length ≤ cap) (hr : RdI w (some ⟨b, off, none⟩) xs) :
    Calls Tryz.prog 70 #[.slice (some ⟨b, off, none⟩) xs.length cap, .int .i64 n] w fun e w' => ∃ v, e = .returned v ∧ PutTwo w w' b off cap xs v (putL xs n) ∧ Below w.heap.size w w' := by
  have HR := Lib.hid hr; clear hr
  have HP := Lib.hid (fun (k : Nat) => putL_at (xs := xs) (n := n) (k := k))
  obtain ⟨i0, hi0, hz0, hz1, hz2⟩ := info_parts Tryz.infoI
  go_enter Tryz.func70, Tryz.ntmps70
  go_wp2
  go_loop [5] (fun i => ∃ k : Nat, k ≤ xs.length ∧ i = .int .i64 k ∧ ∀ j, j < k → xs.getD j 0 < n) (fun i => xs.length - (intOf i).toNat)
  case atStart => exact ⟨0, Nat.zero_le _, rfl, fun j hj => by omega⟩
  case round =>
    obtain ⟨k, hk, rfl, hlow⟩ := hrel
    have HLow := Lib.hid hlow; clear hlow
    have hput := fun h => HP.out k hk HLow.out h
    have HPut := Lib.hid hput; clear hput
    by_cases hlt : k < xs.length
    · have c0 := HR.out.at hlt
      obtain ⟨x, hx⟩ : ∃ x, xs.getD k 0 = x := ⟨_, rfl⟩
      rw [hx] at c0
      have HX := Lib.hid hx; clear hx
      by_cases h1 : x < n
      · go_wp2
        go_round
        case rel =>
          refine ⟨k + 1, by omega, by go_num, fun j hj => ?_⟩
          by_cases e : j = k
          · subst e; rw [HX.out]; exact h1
          · exact HLow.out j (by omega)
        case measure => simp [intOf]; omega
      · by_cases h2 : x = n
        · have h2' : (x == n) = true := by simpa using h2
          have hres : Hid (putL xs n = xs) := by
            show _ = _
            rw [HPut.out (fun _ => by rw [HX.out]; omega), if_pos ⟨hlt, by rw [HX.out]; exact h2⟩]
          subst h2
          go_wp2
          go_ret
          exact ⟨_, rfl, Or.inl ⟨rfl, hres.out⟩, Below.refl _ _⟩
        · have h2' : (x == n) = false := by simpa using h2
          have hres : Hid (putL xs n = xs.take k ++ [n] ++ xs.drop k) := by
            show _ = _
            rw [HPut.out (fun _ => by rw [HX.out]; omega), if_neg (fun h => h2 (by rw [← HX.out]; exact h.2))]
          have hb0 : Below w.heap.size w (w.alloc (.cells #[] 3)) := (Below.refl _ _).alloc (Nat.le_refl _) _
          have HN1 := Lib.hid ((HR.out.below hb0).take k).news
          have HO := Lib.hid (row_empty w 3)
          have hk1 : (ints (xs.take k)).length = k * 1 := by rw [ints_length, List.length_take]; omega
          have hk2 : (ints (xs.drop k)).length = (xs.length - k) * 1 := by rw [ints_length, List.length_drop]; omega
          go_wp2_with (at_builtin; first
            | (refine wpList_append_own _ rfl _ _ 25 rfl w.heap.size 3 i0 _ 1 8 Tryz.underlying25 hi0 hz0 hz1 hz2 rfl (by decide) (.slice (some ⟨w.heap.size, 0, none⟩) 0 0) 0 [] rfl HO.out ⟨b, off, none⟩ k cap (ints (xs.take k)) rfl hk1 HN1.out (ints_oneCell _) (by unfold maxLen; omega) (by omega) (by simp) ?_; intro v1 w1 hown1 hgrow1 hnil1; clear hnil1; have hb1 := hb0.grown hgrow1 (by simp) (fun q e => by simp [Value.ownBlock] at e; omega); have hs1 := hb1.size; have HO1 := Lib.hid hown1; clear hown1)
            | (refine wpList_append_lies _ rfl _ _ 25 rfl w.heap.size 3 i0 _ 1 8 Tryz.underlying25 hi0 hz0 hz1 hz2 rfl (by omega) _ (0 + k) _ rfl (HO1.out.alloc _) ⟨w1.heap.size, 0, none⟩ 1 1 [.int .i64 n] rfl rfl (World.news_of_block (cs := #[.int .i64 n]) (t := 3) (fr := (0, 0)) (heap_alloc_new _ _)) (by simp [Value.oneCell']) (by omega) (by unfold maxLen; omega) (by omega) (by simp; omega) (w1.heap.size + 1) (by simp) ?_; intro g2 cap2 w2 hown2 hgrow2 hat2 hlt2; rw [Nat.zero_add] at hown2; have hb2 := (hb1.alloc hs1 (.cells #[.int .i64 n] 3)).grown hgrow2 (by simp; omega) (fun q e => (HO1.out.lt _ e).1); have hs2 := hb2.size; have HO2 := Lib.hid hown2; clear hown2; have HN2 := Lib.hid ((HR.out.below hb2).drop k).news)
            | (refine wpList_append_own _ rfl _ _ 25 rfl w.heap.size 3 i0 _ 1 8 Tryz.underlying25 hi0 hz0 hz1 hz2 rfl (by decide) (.slice (some ⟨g2, 0, none⟩) (k + 1) cap2) (k + 1) _ rfl HO2.out ⟨b, off + k, none⟩ (xs.length - k) (cap - k) (ints (xs.drop k)) rfl hk2 HN2.out (ints_oneCell _) (by unfold maxLen; omega) (by omega) hs2 ?_; intro v3 w3 hown3 hgrow3 hnil3; clear hnil3; have hb3 := hb2.grown hgrow3 hs2 (fun q e => (HO2.out.lt _ e).1); have HO3 := Lib.hid hown3; clear hown3))
          go_ret
          rcases Own.of_row HO3.out with ⟨_, h0, _⟩ | ⟨g, cap3, rfl, hg, hc3, _, ho⟩
          · omega
          have hlen : k + 1 + (xs.length - k) = (putL xs n).length := by rw [hres.out]; simp; omega
          have ho' := ho.congr (cs' := ints (putL xs n)) (by rw [hres.out]; simp [ints])
          exact ⟨_, rfl, Or.inr ⟨g, cap3, by rw [← hlen]; rfl, by omega, hg, ho'⟩, hb3⟩
    · have hres : Hid (putL xs n = xs.take k ++ [n] ++ xs.drop k) := by
        show _ = _
        rw [HPut.out (fun _ => by omega), if_neg (fun h => hlt h.1)]
      have hb0 : Below w.heap.size w (w.alloc (.cells #[] 3)) := (Below.refl _ _).alloc (Nat.le_refl _) _
      have HN1 := Lib.hid ((HR.out.below hb0).take k).news
      have HO := Lib.hid (row_empty w 3)
      have hk1 : (ints (xs.take k)).length = k * 1 := by rw [ints_length, List.length_take]; omega
      have hk2 : (ints (xs.drop k)).length = (xs.length - k) * 1 := by rw [ints_length, List.length_drop]; omega
      by_cases hkc : k < cap
      · go_wp2_with (at_builtin; first
          | (refine wpList_append_own _ rfl _ _ 25 rfl w.heap.size 3 i0 _ 1 8 Tryz.underlying25 hi0 hz0 hz1 hz2 rfl (by decide) (.slice (some ⟨w.heap.size, 0, none⟩) 0 0) 0 [] rfl HO.out ⟨b, off, none⟩ k cap (ints (xs.take k)) rfl hk1 HN1.out (ints_oneCell _) (by unfold maxLen; omega) (by omega) (by simp) ?_; intro v1 w1 hown1 hgrow1 hnil1; clear hnil1; have hb1 := hb0.grown hgrow1 (by simp) (fun q e => by simp [Value.ownBlock] at e; omega); have hs1 := hb1.size; have HO1 := Lib.hid hown1; clear hown1)
          | (refine wpList_append_lies _ rfl _ _ 25 rfl w.heap.size 3 i0 _ 1 8 Tryz.underlying25 hi0 hz0 hz1 hz2 rfl (by omega) _ (0 + k) _ rfl (HO1.out.alloc _) ⟨w1.heap.size, 0, none⟩ 1 1 [.int .i64 n] rfl rfl (World.news_of_block (cs := #[.int .i64 n]) (t := 3) (fr := (0, 0)) (heap_alloc_new _ _)) (by simp [Value.oneCell']) (by omega) (by unfold maxLen; omega) (by omega) (by simp; omega) (w1.heap.size + 1) (by simp) ?_; intro g2 cap2 w2 hown2 hgrow2 hat2 hlt2; rw [Nat.zero_add] at hown2; have hb2 := (hb1.alloc hs1 (.cells #[.int .i64 n] 3)).grown hgrow2 (by simp; omega) (fun q e => (HO1.out.lt _ e).1); have hs2 := hb2.size; have HO2 := Lib.hid hown2; clear hown2; have HN2 := Lib.hid ((HR.out.below hb2).drop k).news)
          | (refine wpList_append_own _ rfl _ _ 25 rfl w.heap.size 3 i0 _ 1 8 Tryz.underlying25 hi0 hz0 hz1 hz2 rfl (by decide) (.slice (some ⟨g2, 0, none⟩) (k + 1) cap2) (k + 1) _ rfl HO2.out ⟨b, off + k, none⟩ (xs.length - k) (cap - k) (ints (xs.drop k)) rfl hk2 HN2.out (ints_oneCell _) (by unfold maxLen; omega) (by omega) hs2 ?_; intro v3 w3 hown3 hgrow3 hnil3; clear hnil3; have hb3 := hb2.grown hgrow3 hs2 (fun q e => (HO2.out.lt _ e).1); have HO3 := Lib.hid hown3; clear hown3))
        go_ret
        rcases Own.of_row HO3.out with ⟨_, h0, _⟩ | ⟨g, cap3, rfl, hg, hc3, _, ho⟩
        · omega
        have hlen : k + 1 + (xs.length - k) = (putL xs n).length := by rw [hres.out]; simp; omega
        have ho' := ho.congr (cs' := ints (putL xs n)) (by rw [hres.out]; simp [ints])
        exact ⟨_, rfl, Or.inr ⟨g, cap3, by rw [← hlen]; rfl, by omega, hg, ho'⟩, hb3⟩
      · go_wp2_with (at_builtin; first
          | (refine wpList_append_own _ rfl _ _ 25 rfl w.heap.size 3 i0 _ 1 8 Tryz.underlying25 hi0 hz0 hz1 hz2 rfl (by decide) (.slice (some ⟨w.heap.size, 0, none⟩) 0 0) 0 [] rfl HO.out ⟨b, off, none⟩ k cap (ints (xs.take k)) rfl hk1 HN1.out (ints_oneCell _) (by unfold maxLen; omega) (by omega) (by simp) ?_; intro v1 w1 hown1 hgrow1 hnil1; clear hnil1; have hb1 := hb0.grown hgrow1 (by simp) (fun q e => by simp [Value.ownBlock] at e; omega); have hs1 := hb1.size; have HO1 := Lib.hid hown1; clear hown1)
          | (refine wpList_append_lies _ rfl _ _ 25 rfl w.heap.size 3 i0 _ 1 8 Tryz.underlying25 hi0 hz0 hz1 hz2 rfl (by omega) _ (0 + k) _ rfl (HO1.out.alloc _) ⟨w1.heap.size, 0, none⟩ 1 1 [.int .i64 n] rfl rfl (World.news_of_block (cs := #[.int .i64 n]) (t := 3) (fr := (0, 0)) (heap_alloc_new _ _)) (by simp [Value.oneCell']) (by omega) (by unfold maxLen; omega) (by omega) (by simp; omega) (w1.heap.size + 1) (by simp) ?_; intro g2 cap2 w2 hown2 hgrow2 hat2 hlt2; rw [Nat.zero_add] at hown2; have hb2 := (hb1.alloc hs1 (.cells #[.int .i64 n] 3)).grown hgrow2 (by simp; omega) (fun q e => (HO1.out.lt _ e).1); have hs2 := hb2.size; have HO2 := Lib.hid hown2; clear hown2; have HN2 := Lib.hid ((HR.out.below hb2).drop k).news)
          | (refine wpList_append_own _ rfl _ _ 25 rfl w.heap.size 3 i0 _ 1 8 Tryz.underlying25 hi0 hz0 hz1 hz2 rfl (by decide) (.slice (some ⟨g2, 0, none⟩) (k + 1) cap2) (k + 1) _ rfl HO2.out _ (xs.length - k) _ (ints (xs.drop k)) rfl hk2 (fun j u h => absurd h (by rw [List.drop_eq_nil_of_le (by omega)]; simp [ints])) (ints_oneCell _) (by unfold maxLen; omega) (by omega) hs2 ?_; intro v3 w3 hown3 hgrow3 hnil3; clear hnil3; have hb3 := hb2.grown hgrow3 hs2 (fun q e => (HO2.out.lt _ e).1); have HO3 := Lib.hid hown3; clear hown3))
        go_ret
        rcases Own.of_row HO3.out with ⟨_, h0, _⟩ | ⟨g, cap3, rfl, hg, hc3, _, ho⟩
        · omega
        have hlen : k + 1 + (xs.length - k) = (putL xs n).length := by rw [hres.out]; simp; omega
        have ho' := ho.congr (cs' := ints (putL xs n)) (by rw [hres.out]; simp [ints])
        exact ⟨_, rfl, Or.inr ⟨g, cap3, by rw [← hlen]; rfl, by omega, hg, ho'⟩, hb3⟩
theorem l1Put_any (b off cap : Nat) (xs : List Int) (n : Int) (w : World) (hl : xs.length ≤ 1048576) (hc : xs.length ≤ cap) (hr : RdI w (some ⟨b, off, none⟩) xs) :
    Calls Tryz.prog 70 #[.slice (some ⟨b, off, none⟩) xs.length cap, .int .i64 n] w fun e w' => ∃ v, e = .returned v ∧ RdC w' v (putL xs n) ∧ Below w.heap.size w w' := by
  refine (l1Put_two b off cap xs n w hl hc hr).mono ?_
  rintro e w' ⟨v, he, hv, hb⟩
  refine ⟨v, he, ?_, hb⟩
  rcases hv with ⟨rfl, h⟩ | ⟨g, cap', rfl, hc', _, ho⟩
  · exact ⟨b, off, cap, by rw [h], by rw [h]; exact hc, by rw [h]; exact hr.below hb⟩
  · exact ⟨g, 0, cap', rfl, hc', ho.rd⟩
/-- A queue of numbers in memory of the call's own, from some place of its block on. -/
def QAt (w : World) (B : Nat) (E : TypeId) (g : Nat) (v : Value) (xs : List Int) : Prop :=
  ∃ off cap, ∃ cur : Array Value, v = .slice (some ⟨g, off, none⟩) xs.length cap ∧ B ≤ g ∧ w.heap[g]? = some (.cells cur E (0, 0)) ∧ xs.length ≤ cap ∧ off + cap ≤ cur.size ∧ ∀ j, j < xs.length → cur[off + j]? = some (.int .i64 (xs.getD j 0))
section
variable {w w' : World} {B : Nat} {E : TypeId} {g : Nat} {v : Value} {xs : List Int}
theorem QAt.lt (h : QAt w B E g v xs) : g < w.heap.size := by
  obtain ⟨off, cap, cur, rfl, hB, hb, _⟩ := h
  exact (Array.getElem?_eq_some_iff.1 hb).1
theorem QAt.of_block (h : QAt w B E g v xs) (e : w'.heap[g]? = w.heap[g]?) : QAt w' B E g v xs := by
  obtain ⟨off, cap, cur, rfl, hB, hb, r⟩ := h
  exact ⟨off, cap, cur, rfl, hB, e.trans hb, r⟩
theorem QAt.alloc (h : QAt w B E g v xs) (o : Obj) : QAt (w.alloc o) B E g v xs := h.of_block (Deep.blk_alloc_lt _ _ _ h.lt)
theorem QAt.chg {b : Nat} (h : QAt w B E g v xs) (hc : Chg b w w') (hb : g ≠ b) : QAt w' B E g v xs := h.of_block (hc.block g h.lt hb)
theorem QAt.ne {g' : Nat} {E' : TypeId} {cs : List Value} (h : QAt w B E g v xs) (h' : Own w g' E' cs) (hE : E ≠ E') : g ≠ g' := by
  rintro rfl
  obtain ⟨_, _, c, _, _, hb, _⟩ := h
  obtain ⟨c', hb', _⟩ := h'
  rw [hb] at hb'
  simp at hb'
  exact hE hb'.2
theorem QAt.cell {off cap : Nat} (h : QAt w B E g (.slice (some ⟨g, off, none⟩) xs.length cap) xs) {j : Nat} (hj : j < xs.length) : w.cell? ⟨g, off + j, none⟩ = some (.int .i64 (xs.getD j 0)) := by
  obtain ⟨off', cap', cur, e, hB, hb, h1, h2, h3⟩ := h
  simp only [Value.slice.injEq, Option.some.injEq, Addr.mk.injEq, and_true, true_and] at e
  obtain ⟨rfl, rfl⟩ := e
  have := h3 j hj
  simpa [World.cell?, hb] using this
theorem QAt.room {off cap : Nat} (h : QAt w B E g (.slice (some ⟨g, off, none⟩) xs.length cap) xs) : xs.length ≤ cap := by
  obtain ⟨off', cap', cur, e, hB, hb, h1, h2, h3⟩ := h
  simp only [Value.slice.injEq, Option.some.injEq, Addr.mk.injEq, and_true, true_and] at e
  obtain ⟨rfl, rfl⟩ := e
  exact h1
theorem QAt.base (h : QAt w B E g v xs) : B ≤ g := by
  obtain ⟨_, _, _, _, hB, _⟩ := h
  exact hB
theorem QAt.form (h : QAt w B E g v xs) : ∃ off cap, v = .slice (some ⟨g, off, none⟩) xs.length cap := by
  obtain ⟨off', cap', cur, e, _⟩ := h
  exact ⟨off', cap', e⟩
theorem QAt.tail {off cap : Nat} {x : Int} {t : List Int} (h : QAt w B E g (.slice (some ⟨g, off, none⟩) (x :: t).length cap) (x :: t)) : QAt w B E g (.slice (some ⟨g, off + 1, none⟩) t.length (cap - 1)) t := by
  obtain ⟨off', cap', cur, e, hB, hb, h1, h2, h3⟩ := h
  simp only [Value.slice.injEq, Option.some.injEq, Addr.mk.injEq, and_true, true_and] at e
  obtain ⟨rfl, rfl⟩ := e
  simp only [List.length_cons] at h1 h3
  refine ⟨off + 1, cap - 1, cur, rfl, hB, hb, by omega, by omega, fun j hj => ?_⟩
  have := h3 (j + 1) (by omega)
  rw [show off + 1 + j = off + (j + 1) by omega, this]
  simp
theorem QAt.tail1 {off : Nat} {x : Int} {t : List Int} (h : QAt w B E g (.slice (some ⟨g, off, none⟩) (x :: t).length 1) (x :: t)) : QAt w B E g (.slice (some ⟨g, off, none⟩) t.length 0) t := by
  have hr := h.room
  simp only [List.length_cons] at hr
  have ht : t = [] := List.eq_nil_of_length_eq_zero (by omega)
  subst ht
  obtain ⟨off', cap', cur, e, hB, hb, h1, h2, h3⟩ := h
  simp only [Value.slice.injEq, Option.some.injEq, Addr.mk.injEq, and_true, true_and] at e
  obtain ⟨rfl, rfl⟩ := e
  exact ⟨off, 0, cur, rfl, hB, hb, by simp, by omega, fun j hj => by simp at hj⟩
theorem QAt.of_own {cap : Nat} (h : w.heap[g]? = some (.cells (ints xs).toArray E (0, 0))) (hB : B ≤ g) (hc : xs.length = cap) : QAt w B E g (.slice (some ⟨g, 0, none⟩) xs.length cap) xs := by
  subst hc
  refine ⟨0, _, _, rfl, hB, h, Nat.le_refl _, by simp [ints], fun j hj => ?_⟩
  have := ints_get hj
  simpa using this
end
theorem wpList_append_q {P : Program} (w : World) {ops : Array Oper} {rest : List Oper} {o : Oper} {a : Act} {Q : Exit → Act → World → Prop}
    (hg : o.guard = none) (s x : Operand) (t : TypeId) (hop : o.op = Op.call { callee := Callee.builtin Builtin.append, args := #[s, x], argTypes := #[t, t] })
    (e : TypeId) (i : TypeInfo) (z : Value) (bytes : Nat) (h1 : P.underlying t = some (.slice e)) (h2 : P.info? e = some i) (h3 : i.zero = some z) (h4 : i.size = 1) (h5 : i.bytes = bytes) (h6 : z.cells.size = 1)
    (B g off cap : Nat) (xs : List Int) (hs : a.eval s = .slice (some ⟨g, off, none⟩) xs.length cap) (hq : QAt w B e g (.slice (some ⟨g, off, none⟩) xs.length cap) xs)
    (ad : Addr) (c : Nat) (y : Int) (hx : a.eval x = .slice (some ad) 1 c) (hc : w.cell? (ad.add 0) = some (.int .i64 y))
    (b1 : xs.length + 1 ≤ maxLen) (b2 : (xs.length + 1) * bytes ≤ 140737488355328) (hB : B ≤ w.heap.size)
    (hK : ∀ g' off' cap' w', QAt w' B e g' (.slice (some ⟨g', off', none⟩) (xs.length + 1) cap') (xs ++ [y]) → Chg g w w' → (g' = g ∨ w.heap.size ≤ g') → wpList P ops Q rest (a.put o.dst (.slice (some ⟨g', off', none⟩) (xs.length + 1) cap')) w') :
    wpList P ops Q (o :: rest) a w := by
  have hq0 := hq
  obtain ⟨off', cap', cur, e', hBg, hb, r1, r2, r3⟩ := hq
  simp only [Value.slice.injEq, Option.some.injEq, Addr.mk.injEq, and_true, true_and] at e'
  obtain ⟨rfl, rfl⟩ := e'
  refine wpList_append_arg w hg s x t hop e i z 1 bytes h1 h2 h3 h4 h5 h6 (by omega) g off xs.length cap (ints xs) hs (by simp [ints]) (fun j u hj => ?_) ad 1 c [.int .i64 y] hx rfl (fun j u hj => ?_) (by simp [Value.oneCell']) (fun hr j hj => ?_) b1 b2 (fun hr => ?_) (fun hgr v' w' hown hgrow => ?_)
  · have hjl : j < xs.length := by
      have := (List.getElem?_eq_some_iff.1 hj).1
      rwa [ints_length] at this
    have := hq0.cell hjl
    rw [this, ← ints_get hjl, hj]
  · have hj0 : j = 0 := by have := (List.getElem?_eq_some_iff.1 hj).1; simp at this; exact this
    subst hj0
    simp at hj
    subst hj
    exact hc
  · simp at hj
    subst hj
    have hlt : off + xs.length * 1 + 0 < cur.size := by omega
    constructor
    · simp [World.cell?, hb]
      omega
    · simp [World.frozen?, hb]
  · have hw : w.setCells g (off + xs.length * 1) [.int .i64 y] = w.setCell ⟨g, off + xs.length * 1, none⟩ (.int .i64 y) := rfl
    rw [hw]
    have hlen : (xs ++ [y]).length = xs.length + 1 := by simp
    have := hK g off cap (w.setCell ⟨g, off + xs.length * 1, none⟩ (.int .i64 y)) ⟨off, cap, cur.setIfInBounds (off + xs.length * 1) (.int .i64 y), by rw [hlen], hBg, by simp [World.setCell, Array.getElem?_modify, hb], by rw [hlen]; exact hr, by simpa using r2, fun j hj => ?_⟩ (Chg.set _ _ _ _)
    · exact this (Or.inl rfl)
    · rw [hlen] at hj
      rw [Array.getElem?_setIfInBounds]
      by_cases ej : j = xs.length
      · subst ej
        rw [if_pos (by omega), if_pos (by omega)]
        simp [List.getD]
      · rw [if_neg (by omega), r3 j (by omega)]
        simp [List.getD, List.getElem?_append, show j < xs.length by omega]
  · obtain ⟨hl, h | ⟨g', cap', cur', rfl, hg', hh, hn, hcm, hsz, ht⟩⟩ := hown
    · obtain ⟨_, h0⟩ := h; omega
    have hlen : (xs ++ [y]).length = xs.length + 1 := by simp
    have := hK g' 0 cap' w' ⟨0, cap', cur', by rw [hlen], Nat.le_trans hB hg', hh, by rw [hlen]; exact hn, by omega, fun j hj => ?_⟩ ⟨hgrow.os, hgrow.tape, hgrow.output, hgrow.size, fun k hk _ => hgrow.block k hk (by simp)⟩
    · exact this (Or.inr hg')
    · rw [hlen] at hj
      have h5 : (cur'.toList.take ((xs.length + 1) * 1))[j]? = (ints (xs ++ [y]))[j]? := by rw [ht]; simp [ints]
      rw [List.getElem?_take, if_pos (by omega), ints_get (by rw [hlen]; exact hj)] at h5
      simpa using h5
end Go.Proofs.YtjkfighooijblaaGreat
