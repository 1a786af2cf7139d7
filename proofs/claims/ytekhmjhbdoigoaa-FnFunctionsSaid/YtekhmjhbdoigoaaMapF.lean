/-
  Maps from numbers to fractions that a call makes: what they hold, by a plain function. By an AI agent.
-/
import Derived.Test.YtekhmjhbdoigoaaFuP
import Derived.Maps.RangeWalk
namespace Go.Proofs.Ytekhmjhbdoigoaa
open Go.RowKit Go.Maps

def frD (f : Fr) : DataW Unit := .agg [.lit (.int .i64 f.n), .lit (.int .i64 f.d)]
def fracElem (v : Value) : Option (DataW Unit × List MemPlace) :=
  match v with
  | .agg cs => match cs.toList with
    | [.int .i64 a, .int .i64 b] => some (frD ⟨a, b⟩, [])
    | _ => none
  | _ => none
theorem fracElem_mk (f : Fr) : fracElem (frV f) = some (frD f, []) := rfl
theorem fracElem_inv {v : Value} {z : DataW Unit × List MemPlace} (h : fracElem v = some z) : ∃ f : Fr, v = frV f ∧ z = (frD f, []) := by
  unfold fracElem at h
  split at h
  · rename_i cs
    split at h
    · rename_i a b hc
      refine ⟨⟨a, b⟩, ?_, (Option.some.inj h).symm⟩
      unfold frV
      have : cs = #[.int .i64 a, .int .i64 b] := by rw [← hc]
      rw [this]
    · cases h
  · cases h
theorem frD_inj {f g : Fr} (h : frD f = frD g) : f = g := by
  unfold frD at h
  injection h with h
  injection h with h1 h2
  injection h2 with h2 _
  injection h1 with h1
  injection h2 with h2
  injection h1 with _ h1
  injection h2 with _ h2
  cases f
  cases g
  simp only at h1 h2
  rw [h1, h2]
def kLit (e : Nat) : Lit := .int .i64 e
theorem kLit_inj {a b : Nat} (h : kLit a = kLit b) : a = b := by
  unfold kLit at h
  injection h with _ h
  omega
/-- The datum D holds just what m says. -/
def Agr (D : DataW Unit) (m : Nat → Option Fr) : Prop :=
  (∀ e, Maps.has D (kLit e) = (m e).isSome) ∧ (∀ e f, m e = some f → ∀ zd, D.atKey (kLit e) zd = frD f) ∧ ∀ kl, Maps.has D kl = true → ∃ e, kl = kLit e
theorem agr_made : Agr (.map []) (fun _ => none) := ⟨fun _ => rfl, fun _ _ h => (by cases h), fun _ h => (by cases h)⟩
theorem agr_put {D : DataW Unit} {m : Nat → Option Fr} (h : Agr D m) (hD : Maps.IsMap D) (e : Nat) (f : Fr) : Agr (D.put (kLit e) (frD f)) (fun y => if y = e then some f else m y) := by
  refine ⟨fun y => ?_, fun y g hy zd => ?_, fun kl hkl => ?_⟩
  rotate_left 2
  · by_cases hk : kl = kLit e
    · exact ⟨e, hk⟩
    · rw [Maps.has_put_other hk] at hkl
      exact h.2.2 kl hkl
  · by_cases hye : y = e
    · subst hye
      simp only [↓reduceIte, Option.isSome_some]
      exact Maps.has_put_same hD (show WideAt.IsKeyLit (kLit y) from trivial) _
    · simp only [if_neg hye]
      rw [Maps.has_put_other (fun he => hye (kLit_inj he)), h.1]
  · by_cases hye : y = e
    · subst hye
      simp only [↓reduceIte, Option.some.injEq] at hy
      subst hy
      exact Maps.atKey_put_same hD (show WideAt.IsKeyLit (kLit y) from trivial) _ _
    · simp only [if_neg hye] at hy
      rw [Maps.atKey_put_other (fun he => hye (kLit_inj he)), h.2.1 y g hy]
theorem agr_none {D : DataW Unit} {m : Nat → Option Fr} (h : Agr D m) {e : Nat} (he : m e = none) (zd : DataW Unit) : D.atKey (kLit e) zd = zd := by
  have := h.1 e
  rw [he] at this
  exact Maps.atKey_of_not_has this zd

/-! ### at this dump -/
theorem lawKey : Keyed Try.prog 3 := int_keyed Try.underlying3
def OwnM (w : World) (b n : Nat) (D : DataW Unit) : Prop := w.ownsMap Try.prog 3 fracElem b n D
def RgM (w : World) (b r n : Nat) (D : DataW Unit) (left : Lit → Bool) (cnt : Nat) : Prop := w.ranges Try.prog 3 fracElem b r n D left cnt
theorem OwnM.below {w w' : World} {b n : Nat} {D : DataW Unit} (h : OwnM w b n D) (hb : Below w.heap.size w w') : OwnM w' b n D :=
  World.ownsMap.kept (row := none) h ⟨hb.os, hb.tape, hb.output, hb.size, fun k hk _ => hb.block k hk⟩ (by simp)
theorem OwnM.setCell {w : World} {b n : Nat} {D : DataW Unit} (h : OwnM w b n D) {a : Addr} (ha : b ≠ a.block) (u : Value) : OwnM (w.setCell a u) b n D := World.ownsMap.setCell h ha u
theorem OwnM.lt {w : World} {b n : Nat} {D : DataW Unit} (h : OwnM w b n D) : b < w.heap.size := World.ownsMap.lt h
theorem RgM.below {w w' : World} {b r n : Nat} {D : DataW Unit} {left : Lit → Bool} {cnt : Nat} (h : RgM w b r n D left cnt) (hb : Below w.heap.size w w') : RgM w' b r n D left cnt :=
  World.ranges.kept (row := none) h ⟨hb.os, hb.tape, hb.output, hb.size, fun k hk _ => hb.block k hk⟩ (by simp) (by simp)
theorem chg_grown {w w' : World} {c : Nat} (h : Chg c w w') : w.grownBy w' (some c) := ⟨h.os, h.tape, h.output, h.size, fun k hk hne => h.block k hk (fun e => hne (by rw [e]))⟩
theorem RgM.chg {w w' : World} {b r n c : Nat} {D : DataW Unit} {left : Lit → Bool} {cnt : Nat} (h : RgM w b r n D left cnt) (hc : Chg c w w') (h1 : b ≠ c) (h2 : r ≠ c) : RgM w' b r n D left cnt :=
  World.ranges.kept h (chg_grown hc) (fun e => h1 (Option.some.inj e)) (fun e => h2 (Option.some.inj e))
theorem grown_below {u w w' : World} {b : Nat} (hb : Below u.heap.size u w) (hg : w.grownBy w' (some b)) (h : u.heap.size ≤ b) : Below u.heap.size u w' :=
  hb.grown hg hb.size (fun j hj => by cases hj; exact h)
theorem grown_cell {w w' : World} {b : Nat} (hg : w.grownBy w' (some b)) {a : Addr} (ha : a.block < w.heap.size) (hne : a.block ≠ b) {v : Value} (h : w.cell? a = some v) : w'.cell? a = some v := by
  rw [World.cell?_of_block (hg.block a.block ha (fun e => hne (Option.some.inj e)))]
  exact h
theorem ins_ex {W : World} {b n : Nat} {D : DataW Unit} (h : OwnM W b n D) (hn : n < maxLen) (e : Nat) (he : e ≤ 1000) (f : Fr) :
    ∃ w', (Instr.mapUpdate 46 (.map (some b)) (.int .i64 (e : Int)) (.agg #[.int .i64 f.n, .int .i64 f.d])).run Try.prog W = .ok () w' ∧ OwnM w' b (n + 1) (D.put (kLit e) (frD f)) ∧ W.grownBy w' (some b) :=
  World.ownsMap.update (d := frD f) (ps := []) (val := .agg #[.int .i64 f.n, .int .i64 f.d]) h lawKey Try.underlying46 hn (keyOf_int_mk (a := (e : Int)) Try.underlying3 (WalkArith.wf_i64 (by omega))) (fracElem_mk f)
theorem own_made (w : World) : OwnM (w.alloc (.map #[] 0)) w.heap.size 0 (.map []) := World.ownsMap_made _ _ _ _

end Go.Proofs.Ytekhmjhbdoigoaa
