/-
  The program's isConnected: a queue of vertices; both sides of IsConnected.
-/
import Derived.Test.YtmhmdbmiimpbnaaConnS
import Derived.ArgAppend
namespace Go.Proofs.Ytmhmdbmiimpbnaa
open Go.RowKit

/-- A queue of numbers in memory of the call's own, from some place of its block on. -/
def QAt (w : World) (B : Nat) (E : TypeId) (g : Nat) (v : Value) (xs : List Int) : Prop :=
  ∃ off cap, ∃ cur : Array Value, v = .slice (some ⟨g, off, none⟩) xs.length cap ∧ B ≤ g ∧ w.heap[g]? = some (.cells cur E (0, 0)) ∧ xs.length ≤ cap ∧ off + cap ≤ cur.size ∧ ∀ j, j < xs.length → cur[off + j]? = some (.int .i64 (xs.getD j 0))

section
variable {w w' : World} {B : Nat} {E : TypeId} {g : Nat} {v : Value} {xs : List Int}
theorem QAt.lt (h : QAt w B E g v xs) : g < w.heap.size := by
  obtain ⟨off, cap, cur, rfl, hB, hb, _⟩ := h
  exact (Array.getElem?_eq_some_iff.1 hb).1
theorem QAt.of_block (h : QAt w B E g v xs) (e : w'.heap[g]? = w.heap[g]?) : QAt w' B E g v xs := by
  obtain ⟨off, cap, cur, rfl, hB, hb, r⟩ := h
  exact ⟨off, cap, cur, rfl, hB, e.trans hb, r⟩
theorem QAt.alloc (h : QAt w B E g v xs) (o : Obj) : QAt (w.alloc o) B E g v xs := h.of_block (Deep.blk_alloc_lt _ _ _ h.lt)
theorem QAt.chg {b : Nat} (h : QAt w B E g v xs) (hc : Chg b w w') (hb : g ≠ b) : QAt w' B E g v xs := h.of_block (hc.block g h.lt hb)
theorem QAt.ne {g' : Nat} {E' : TypeId} {cs : List Value} (h : QAt w B E g v xs) (h' : Own w g' E' cs) (hE : E ≠ E') : g ≠ g' := by
  rintro rfl
  obtain ⟨_, _, c, _, _, hb, _⟩ := h
  obtain ⟨c', hb', _⟩ := h'
  rw [hb] at hb'
  simp at hb'
  exact hE hb'.2
theorem QAt.cell {off cap : Nat} (h : QAt w B E g (.slice (some ⟨g, off, none⟩) xs.length cap) xs) {j : Nat} (hj : j < xs.length) : w.cell? ⟨g, off + j, none⟩ = some (.int .i64 (xs.getD j 0)) := by
  obtain ⟨off', cap', cur, e, hB, hb, h1, h2, h3⟩ := h
  simp only [Value.slice.injEq, Option.some.injEq, Addr.mk.injEq, and_true, true_and] at e
  obtain ⟨rfl, rfl⟩ := e
  have := h3 j hj
  simpa [World.cell?, hb] using this
theorem QAt.room {off cap : Nat} (h : QAt w B E g (.slice (some ⟨g, off, none⟩) xs.length cap) xs) : xs.length ≤ cap := by
  obtain ⟨off', cap', cur, e, hB, hb, h1, h2, h3⟩ := h
  simp only [Value.slice.injEq, Option.some.injEq, Addr.mk.injEq, and_true, true_and] at e
  obtain ⟨rfl, rfl⟩ := e
  exact h1
theorem QAt.base (h : QAt w B E g v xs) : B ≤ g := by
  obtain ⟨_, _, _, _, hB, _⟩ := h
  exact hB
theorem QAt.form (h : QAt w B E g v xs) : ∃ off cap, v = .slice (some ⟨g, off, none⟩) xs.length cap := by
  obtain ⟨off', cap', cur, e, _⟩ := h
  exact ⟨off', cap', e⟩
theorem QAt.tail {off cap : Nat} {x : Int} {t : List Int} (h : QAt w B E g (.slice (some ⟨g, off, none⟩) (x :: t).length cap) (x :: t)) : QAt w B E g (.slice (some ⟨g, off + 1, none⟩) t.length (cap - 1)) t := by
  obtain ⟨off', cap', cur, e, hB, hb, h1, h2, h3⟩ := h
  simp only [Value.slice.injEq, Option.some.injEq, Addr.mk.injEq, and_true, true_and] at e
  obtain ⟨rfl, rfl⟩ := e
  simp only [List.length_cons] at h1 h3
  refine ⟨off + 1, cap - 1, cur, rfl, hB, hb, by omega, by omega, fun j hj => ?_⟩
  have := h3 (j + 1) (by omega)
  rw [show off + 1 + j = off + (j + 1) by omega, this]
  simp
theorem QAt.tail1 {off : Nat} {x : Int} {t : List Int} (h : QAt w B E g (.slice (some ⟨g, off, none⟩) (x :: t).length 1) (x :: t)) : QAt w B E g (.slice (some ⟨g, off, none⟩) t.length 0) t := by
  have hr := h.room
  simp only [List.length_cons] at hr
  have ht : t = [] := List.eq_nil_of_length_eq_zero (by omega)
  subst ht
  obtain ⟨off', cap', cur, e, hB, hb, h1, h2, h3⟩ := h
  simp only [Value.slice.injEq, Option.some.injEq, Addr.mk.injEq, and_true, true_and] at e
  obtain ⟨rfl, rfl⟩ := e
  exact ⟨off, 0, cur, rfl, hB, hb, by simp, by omega, fun j hj => by simp at hj⟩
theorem QAt.of_own {cap : Nat} (h : w.heap[g]? = some (.cells (ints xs).toArray E (0, 0))) (hB : B ≤ g) (hc : xs.length = cap) : QAt w B E g (.slice (some ⟨g, 0, none⟩) xs.length cap) xs := by
  subst hc
  refine ⟨0, _, _, rfl, hB, h, Nat.le_refl _, by simp [ints], fun j hj => ?_⟩
  have := ints_get hj
  simpa using this
end

theorem wpList_append_q {P : Program} (w : World) {ops : Array Oper} {rest : List Oper} {o : Oper} {a : Act} {Q : Exit → Act → World → Prop}
    (hg : o.guard = none) (s x : Operand) (t : TypeId) (hop : o.op = Op.call { callee := Callee.builtin Builtin.append, args := #[s, x], argTypes := #[t, t] })
    (e : TypeId) (i : TypeInfo) (z : Value) (bytes : Nat) (h1 : P.underlying t = some (.slice e)) (h2 : P.info? e = some i) (h3 : i.zero = some z) (h4 : i.size = 1) (h5 : i.bytes = bytes) (h6 : z.cells.size = 1)
    (B g off cap : Nat) (xs : List Int) (hs : a.eval s = .slice (some ⟨g, off, none⟩) xs.length cap) (hq : QAt w B e g (.slice (some ⟨g, off, none⟩) xs.length cap) xs)
    (ad : Addr) (c : Nat) (y : Int) (hx : a.eval x = .slice (some ad) 1 c) (hc : w.cell? (ad.add 0) = some (.int .i64 y))
    (b1 : xs.length + 1 ≤ maxLen) (b2 : (xs.length + 1) * bytes ≤ 140737488355328) (hB : B ≤ w.heap.size)
    (hK : ∀ g' off' cap' w', QAt w' B e g' (.slice (some ⟨g', off', none⟩) (xs.length + 1) cap') (xs ++ [y]) → Chg g w w' → wpList P ops Q rest (a.put o.dst (.slice (some ⟨g', off', none⟩) (xs.length + 1) cap')) w') :
    wpList P ops Q (o :: rest) a w := by
  have hq0 := hq
  obtain ⟨off', cap', cur, e', hBg, hb, r1, r2, r3⟩ := hq
  simp only [Value.slice.injEq, Option.some.injEq, Addr.mk.injEq, and_true, true_and] at e'
  obtain ⟨rfl, rfl⟩ := e'
  refine wpList_append_arg w hg s x t hop e i z 1 bytes h1 h2 h3 h4 h5 h6 (by omega) g off xs.length cap (ints xs) hs (by simp [ints]) (fun j u hj => ?_) ad 1 c [.int .i64 y] hx rfl (fun j u hj => ?_) (by simp [Value.oneCell']) (fun hr j hj => ?_) b1 b2 (fun hr => ?_) (fun hgr v' w' hown hgrow => ?_)
  · have hjl : j < xs.length := by
      have := (List.getElem?_eq_some_iff.1 hj).1
      rwa [ints_length] at this
    have := hq0.cell hjl
    rw [this, ← ints_get hjl, hj]
  · have hj0 : j = 0 := by have := (List.getElem?_eq_some_iff.1 hj).1; simp at this; exact this
    subst hj0
    simp at hj
    subst hj
    exact hc
  · simp at hj
    subst hj
    have hlt : off + xs.length * 1 + 0 < cur.size := by omega
    constructor
    · simp [World.cell?, hb]
      omega
    · simp [World.frozen?, hb]
  · have hw : w.setCells g (off + xs.length * 1) [.int .i64 y] = w.setCell ⟨g, off + xs.length * 1, none⟩ (.int .i64 y) := rfl
    rw [hw]
    have hlen : (xs ++ [y]).length = xs.length + 1 := by simp
    have := hK g off cap (w.setCell ⟨g, off + xs.length * 1, none⟩ (.int .i64 y)) ⟨off, cap, cur.setIfInBounds (off + xs.length * 1) (.int .i64 y), by rw [hlen], hBg, by simp [World.setCell, Array.getElem?_modify, hb], by rw [hlen]; exact hr, by simpa using r2, fun j hj => ?_⟩ (Chg.set _ _ _ _)
    · exact this
    · rw [hlen] at hj
      rw [Array.getElem?_setIfInBounds]
      by_cases ej : j = xs.length
      · subst ej
        rw [if_pos (by omega), if_pos (by omega)]
        simp [List.getD]
      · rw [if_neg (by omega), r3 j (by omega)]
        simp [List.getD, List.getElem?_append, show j < xs.length by omega]
  · obtain ⟨hl, h | ⟨g', cap', cur', rfl, hg', hh, hn, hcm, hsz, ht⟩⟩ := hown
    · obtain ⟨_, h0⟩ := h; omega
    have hlen : (xs ++ [y]).length = xs.length + 1 := by simp
    have := hK g' 0 cap' w' ⟨0, cap', cur', by rw [hlen], Nat.le_trans hB hg', hh, by rw [hlen]; exact hn, by omega, fun j hj => ?_⟩ ⟨hgrow.os, hgrow.tape, hgrow.output, hgrow.size, fun k hk _ => hgrow.block k hk (by simp)⟩
    · exact this
    · rw [hlen] at hj
      have h5 : (cur'.toList.take ((xs.length + 1) * 1))[j]? = (ints (xs ++ [y]))[j]? := by rw [ht]; simp [ints]
      rw [List.getElem?_take, if_pos (by omega), ints_get (by rw [hlen]; exact hj)] at h5
      simpa using h5

end Go.Proofs.Ytmhmdbmiimpbnaa
