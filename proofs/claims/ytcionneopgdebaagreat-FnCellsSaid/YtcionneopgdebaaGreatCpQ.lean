/-
  Some texts of this proof in one: CpQ CpU. Each part tells what it proves. By an AI agent.
-/
import Derived.Test.YtcionneopgdebaaGreatCpK
import Derived.Test.YtcionneopgdebaaGreatCpL
import Derived.Test.YtcionneopgdebaaGreatSkip
import Derived.Deep.DeepCutAuto
import Derived.Test.YtcionneopgdebaaGreatHalf

/-
  Some texts of this proof in one: CpQ CpS CpT CpR. Each part tells what it proves. By an AI agent.
-/

/-
  The subdivision of a plane polynomial: what stands in memory while it is made. By an AI agent.
-/
namespace Go.Proofs.YtcionneopgdebaaGreat
open Go.RowKit Go.Maps

theorem cel3_len (L : List Tm) (a b : Nat) : ∀ k, (cel3 L a b k).length ≤ k
  | 0 => Nat.le_refl _
  | k + 1 => by
    have := cel3_len L a b k
    unfold cel3
    split
    · rw [List.length_append]; simp; omega
    · omega
theorem cel2_len (L : List Tm) (hn : L.length ≤ 12) (a : Nat) : ∀ k, (cel2 L a k).length ≤ k * 12
  | 0 => Nat.le_refl _
  | k + 1 => by
    have := cel2_len L hn a k
    have h3 := cel3_len L a k L.length
    unfold cel2
    split
    · rw [List.length_append]; omega
    · omega
theorem cel1_len (L : List Tm) (hn : L.length ≤ 12) : ∀ k, (cel1 L k).length ≤ k * 144
  | 0 => Nat.le_refl _
  | k + 1 => by
    have := cel1_len L hn k
    have h3 := cel2_len L hn k L.length
    unfold cel1
    rw [List.length_append]
    omega
theorem cel3_low (L : List Tm) (a b : Nat) : ∀ k, k ≤ b + 1 → cel3 L a b k = []
  | 0, _ => rfl
  | k + 1, h => by
    unfold cel3
    rw [if_neg (fun g => by omega), cel3_low L a b k (by omega)]
theorem cel2_low (L : List Tm) (a : Nat) : ∀ k, k ≤ a + 1 → cel2 L a k = []
  | 0, _ => rfl
  | k + 1, h => by
    unfold cel2
    rw [if_neg (by omega), cel2_low L a k (by omega)]
theorem cel3_in {L : List Tm} {a b : Nat} : ∀ {k : Nat} {x : List Int}, x ∈ cel3 L a b k → ∃ c, x = celL L a b c
  | 0, x, h => by cases h
  | k + 1, x, h => by
    unfold cel3 at h
    split at h
    · rcases List.mem_append.1 h with h | h
      · exact cel3_in h
      · rw [List.mem_singleton] at h; exact ⟨k, h⟩
    · exact cel3_in h
theorem cel2_in {L : List Tm} {a : Nat} : ∀ {k : Nat} {x : List Int}, x ∈ cel2 L a k → ∃ b c, x = celL L a b c
  | 0, x, h => by cases h
  | k + 1, x, h => by
    unfold cel2 at h
    split at h
    · rcases List.mem_append.1 h with h | h
      · exact cel2_in h
      · exact ⟨k, cel3_in h⟩
    · exact cel2_in h
theorem cel1_in {L : List Tm} : ∀ {k : Nat} {x : List Int}, x ∈ cel1 L k → ∃ a b c, a < k ∧ x = celL L a b c
  | 0, x, h => by cases h
  | k + 1, x, h => by
    unfold cel1 at h
    rcases List.mem_append.1 h with h | h
    · obtain ⟨a, b, c, h1, h2⟩ := cel1_in h
      exact ⟨a, b, c, by omega, h2⟩
    · obtain ⟨b, c, h⟩ := cel2_in h
      exact ⟨k, b, c, Nat.lt_succ_self _, h⟩
theorem putF_len (l : List (List Int)) : (LstSort.putF l).length ≤ l.length := by
  have : ∀ (l o : List (List Int)), (l.foldl (fun o p => LstSort.insL p o) o).length ≤ o.length + l.length := by
    intro l
    induction l with
    | nil => intro o; exact Nat.le_refl _
    | cons p l ih =>
      intro o
      have h1 : ∀ (o : List (List Int)), (LstSort.insL p o).length ≤ o.length + 1 := by
        intro o
        induction o with
        | nil => simp [LstSort.insL]
        | cons q o ih =>
          unfold LstSort.insL
          split
          · simp; omega
          · split <;> simp
      have h2 := ih (LstSort.insL p o)
      have h3 := h1 o
      rw [List.foldl_cons, List.length_cons]
      omega
  have h := this l []
  rw [List.length_nil, Nat.zero_add] at h
  exact h
theorem celA_len (L : List Tm) (hn : L.length ≤ 12) : (celA L).length ≤ 1728 := by
  have h1 := putF_len (cel1 L L.length)
  have h2 := cel1_len L hn L.length
  unfold celA
  omega
/-- the cells: lists of terms, not empty. -/
theorem celA_in {L : List Tm} {x : List Int} (h : x ∈ celA L) : x ≠ [] ∧ x.length ≤ L.length ∧ ∀ y ∈ x, ∃ t : Nat, y = t ∧ t < L.length := by
  obtain ⟨a, b, c, ha, rfl⟩ := cel1_in ((LstSort.putF_mem _ _).1 h)
  refine ⟨celL_ne ha, onL3_len L a b c _, fun y hy => ?_⟩
  obtain ⟨t, e, ht, _⟩ := onL3_mem.1 hy
  exact ⟨t, e, ht⟩

theorem MatL.chg {w w' : World} {R B S : Nat} {v : Value} {M : List (List Int)} {vs : List Value} (h : MatL w R B v M vs) (hc : Chg S w w') (hR : S < R) (hB : S < B) : MatL w' R B v M vs := by
  refine ⟨h.row.kept ⟨hc.os, hc.tape, hc.output, hc.size, fun k hk hne => hc.block k hk (fun e => hne (by rw [e]))⟩ ?_, fun i hi => (h.each i hi).of_block fun q hq => hc.block q ((h.each i hi).lt hq).2 (by have := ((h.each i hi).lt hq).1; omega)⟩
  cases hv : v.ownBlock with
  | none => exact Or.inl rfl
  | some g =>
    refine Or.inr fun e => ?_
    have := (h.row.lt g hv).1
    cases e
    omega

/-- While the cells are found. -/
structure InvC (W : World) (S b : Nat) (lt pt : Value) (M : List (List Int)) (w : World) : Prop where
  ex : ∃ v vs, MatL w (S + 1) (S + 1) v M vs ∧ Own w S 56 [lt, pt, v, .slice none 0 0, .map (some b)]
  bel : Below S W w
  size : S + 1 ≤ w.heap.size
theorem InvC.below {W w w' : World} {S b : Nat} {lt pt : Value} {M : List (List Int)} (h : InvC W S b lt pt M w) (hb : Below w.heap.size w w') (_hS : S ≤ W.heap.size) : InvC W S b lt pt M w' := by
  obtain ⟨v, vs, h1, h2⟩ := h.ex
  have := h.size
  exact ⟨⟨v, vs, h1.below hb, h2.belowAll hb⟩, h.bel.trans (hb.mono (by omega)), Nat.le_trans h.size hb.size⟩
end Go.Proofs.YtcionneopgdebaaGreat

/-
  One append into the map of lists in a region that draws its order: what holds whatever has come up. By an AI agent.
-/
namespace Go.Proofs.YtcionneopgdebaaGreat
open Go.RowKit Go.Maps
open Go.ChangeMaps Go.ChangeShapes
open Go.ChangeMaps (setBlock heap_setBlock_same heap_setBlock_other)
open Go.WideElems (Fit)

theorem OwnG.isMap {w : World} {Z b n : Nat} {D : DataW Unit} (h : OwnG w Z b n D) : Maps.IsMap D := by
  obtain ⟨es, clock, hb, F, hs, rfl, _⟩ := h
  exact ⟨_, rfl⟩
theorem ownsI_same {w w' : World} {Z : Nat} {v : Value} {zs : List Int} (h : w.ownsInts Z 3 .i64 v zs) (hb : ∀ q, v.ownBlock = some q → w'.heap[q]? = w.heap[q]?) : w'.ownsInts Z 3 .i64 v zs := by
  refine ⟨⟨h.1.1, ?_⟩, h.2⟩
  rcases h.1.2 with h1 | ⟨g, cap, cur, rfl, h2, h3, h4⟩
  · exact Or.inl h1
  · exact Or.inr ⟨g, cap, cur, rfl, h2, (hb g rfl).trans h3, h4⟩
theorem OwnG.below {w w' : World} {Z b n : Nat} {D : DataW Unit} (h : OwnG w Z b n D) (hb : Below w.heap.size w w') : OwnG w' Z b n D := by
  obtain ⟨es, clock, hbb, F, hs, rfl, hlt, hlen, hap⟩ := h
  have hblt : b < w.heap.size := (Array.getElem?_eq_some_iff.1 hbb).1
  have owned : ∀ x ∈ es.toList, ∃ zs, w.ownsInts Z 3 .i64 x.val zs := fun x hx => by
    obtain ⟨y, hy⟩ := F.reads x hx
    obtain ⟨z, hz, _⟩ := WideElems.rd_val hy
    obtain ⟨zs, ho, _⟩ := rowElem_inv hz
    exact ⟨zs, ho⟩
  have keep : ∀ {v zs}, w.ownsInts Z 3 .i64 v zs → w'.ownsInts Z 3 .i64 v zs := fun {v zs} ho => ownsI_same ho fun q hq => hb.block q (ho.1.lt q hq).2
  obtain ⟨F2, hmap, _⟩ := F.stay (R' := rowElem (H := Unit) w' Z 3 .i64) (fun x _ z hz => by
    obtain ⟨zs, ho, rfl⟩ := rowElem_inv hz
    exact rowElem_mk (keep ho))
  refine ⟨es, clock, (hb.block b hblt).trans hbb, F2, hs, by rw [hmap], hlt, fun x hx ys ho => ?_, hap⟩
  obtain ⟨zs, h1⟩ := owned x hx
  rw [ho.unique (keep h1)]
  exact hlen x hx zs h1
/-- No list of the map lies in this block. -/
def Av (w : World) (b g : Nat) : Prop := ∀ es clock, w.heap[b]? = some (.map es clock) → ∀ x ∈ es.toList, x.val.ownBlock ≠ some g
theorem OwnG.av {w : World} {Z b n g : Nat} {D : DataW Unit} (h : OwnG w Z b n D) (hg : w.heap.size ≤ g) : Av w b g := by
  obtain ⟨es, clock, hbb, F, _⟩ := h
  intro es' clock' h' x hx e
  rw [hbb] at h'
  injection h' with h'
  injection h' with h' _
  subst h'
  obtain ⟨y, hy⟩ := F.reads x hx
  obtain ⟨z, hz, _⟩ := WideElems.rd_val hy
  obtain ⟨zs, ho, _⟩ := rowElem_inv hz
  have := (ho.1.lt g e).2
  omega
theorem Av.same {w w' : World} {b g : Nat} (h : Av w b g) (e : w'.heap[b]? = w.heap[b]?) : Av w' b g := fun es clock h' => h es clock (e ▸ h')

structure EnP where
  W0 : World
  Z : Nat
  b : Nat
  nn : Nat
  gC : Nat
  D : DataW Unit
  key : Value
  kl : Lit
  v0 : Value
  st : Nat
  zs : List Int
  es : Array MapEntry
  clock : Nat
  es1 : Array MapEntry
  clock1 : Nat
  kk : Int
structure EnP.Ok (p : EnP) : Prop where
  hb : p.W0.heap[p.b]? = some (.map p.es p.clock)
  ho : p.W0.ownsInts p.Z 3 .i64 p.v0 p.zs
  hz : p.zs.length ≤ p.nn
  hn : p.nn ≤ 100000
  hnb : p.v0.ownBlock ≠ some p.b
  hsrc : p.v0.ownBlock = none ∨ ∃ x ∈ p.es.toList, x.val = p.v0
  hE : ∀ u : World, u.heap[p.b]? = some (.map p.es p.clock) → (Instr.mapEntry 54 (.map (some p.b)) p.key).run Tryz.prog u = .ok (.tuple #[p.v0, goInt p.st]) (setBlock u p.b (.map p.es1 p.clock1))
  hS : ∀ (u : World) (v' : Value) (zs' : List Int), p.W0.grownBy (setBlock u p.b (.map p.es p.clock)) p.v0.ownBlock → u.heap[p.b]? = some (.map p.es1 p.clock1) → (setBlock u p.b (.map p.es p.clock)).ownsInts p.Z 3 .i64 v' zs' → zs'.length ≤ p.nn + 1 → (v'.ownBlock = p.v0.ownBlock ∨ ∃ g, v'.ownBlock = some g ∧ p.W0.heap.size ≤ g) →
        ∃ (es' : Array MapEntry) (clock' : Nat), (Instr.entryStore 54 (.map (some p.b)) (goInt p.st) v').run Tryz.prog u = .ok () (setBlock u p.b (.map es' clock')) ∧ OwnG (setBlock u p.b (.map es' clock')) p.Z p.b (p.nn + 1) (p.D.put p.kl (rowDatum .i64 v' zs')) ∧ ∀ x ∈ es'.toList, x ∈ p.es.toList ∨ x.val = v'
  av : Av p.W0 p.b p.gC
  hgC : p.gC < p.W0.heap.size
  hk : Wf p.kk
  hZ : p.Z ≤ p.W0.heap.size
theorem EnP.Ok.blt {p : EnP} (h : p.Ok) : p.b < p.W0.heap.size := (Array.getElem?_eq_some_iff.1 h.hb).1
/-- What the map is behind the append. -/
def EnF (p : EnP) (w : World) : Prop := OwnG w p.Z p.b (p.nn + 1) (p.D.put p.kl (.slice (lits .i64 (p.zs ++ [p.kk])) [])) ∧ Av w p.b p.gC
structure EnI (p : EnP) (l6 l7 l9 l11 : Bool) (w : World) (s113 s114 s115 : Value) : Prop where
  os : w.os = p.W0.os
  tape : w.tape = p.W0.tape
  output : w.output = p.W0.output
  size : p.W0.heap.size ≤ w.heap.size
  fr : ∀ q, q < p.W0.heap.size → q ≠ p.b → p.v0.ownBlock ≠ some q → w.heap[q]? = p.W0.heap[q]?
  fv : l9 = false → ∀ q, q < p.W0.heap.size → q ≠ p.b → w.heap[q]? = p.W0.heap[q]?
  b0 : l7 = false → w.heap[p.b]? = some (.map p.es p.clock)
  b1 : l7 = true → l11 = false → w.heap[p.b]? = some (.map p.es1 p.clock1)
  a6 : l6 = true → ∃ T, s113 = .slice (some ⟨T, 0, none⟩) 1 1 ∧ p.W0.heap.size ≤ T ∧ (l9 = false → Own w T 3 [.int .i64 p.kk])
  e7 : l7 = true → s114 = .tuple #[p.v0, goInt p.st]
  o97 : l9 = true → l7 = true ∧ l6 = true
  o11 : l11 = true → l9 = true
  a9 : l9 = true → (s115.ownBlock = p.v0.ownBlock ∨ ∃ g, s115.ownBlock = some g ∧ p.W0.heap.size ≤ g) ∧ (l11 = false → (setBlock w p.b (.map p.es p.clock)).ownsInts p.Z 3 .i64 s115 (p.zs ++ [p.kk]))
  f11 : l11 = true → EnF p w
theorem EnI.start {p : EnP} (h : p.Ok) (u v t : Value) : EnI p false false false false p.W0 u v t :=
  ⟨rfl, rfl, rfl, Nat.le_refl _, fun _ _ _ _ => rfl, fun _ _ _ _ => rfl, fun _ => h.hb, fun e => (by cases e), fun e => (by cases e), fun e => (by cases e), fun e => (by cases e), fun e => (by cases e), fun e => (by cases e), fun e => (by cases e)⟩
/-- A cell of an old block. -/
theorem EnI.cell {p : EnP} {l6 l7 l9 l11 : Bool} {w : World} {a c t : Value} (h : EnI p l6 l7 l9 l11 w a c t) {q i : Nat} {v : Value} (hq : q < p.W0.heap.size) (hb : q ≠ p.b) (hv : p.v0.ownBlock ≠ some q) (hc : p.W0.cell? ⟨q, i, none⟩ = some v) : w.cell? ⟨q, i, none⟩ = some v :=
  (World.cell?_of_block (h.fr q hq hb hv)).trans hc
/-- the one element. -/
theorem EnI.one {p : EnP} {l7 l9 l11 : Bool} {w : World} {a c t : Value} (hp : p.Ok) (h : EnI p false l7 l9 l11 w a c t) : EnI p true l7 l9 l11 (w.alloc (.cells #[.int .i64 p.kk] 3)) (.slice (some ⟨w.heap.size, 0, none⟩) 1 1) c t := by
  have h9 : l9 = false := by cases hc : l9; rfl; exact absurd (h.o97 hc).2 (by simp)
  have h11 : l11 = false := by cases hc : l11; rfl; have := h.o11 hc; rw [h9] at this; cases this
  have old : ∀ q, q < p.W0.heap.size → (w.alloc (.cells #[.int .i64 p.kk] 3)).heap[q]? = w.heap[q]? := fun q hq => Deep.blk_alloc_lt _ _ _ (Nat.lt_of_lt_of_le hq h.size)
  subst h9; subst h11
  exact ⟨h.os, h.tape, h.output, Nat.le_trans h.size (by simp), fun q h1 h2 h3 => (old q h1).trans (h.fr q h1 h2 h3), fun e q h1 h2 => (old q h1).trans (h.fv e q h1 h2), fun e => (old _ hp.blt).trans (h.b0 e), fun e e2 => (old _ hp.blt).trans (h.b1 e e2),
    fun _ => ⟨_, rfl, h.size, fun _ => Own.new w [.int .i64 p.kk] 3⟩, h.e7, fun e => (by cases e), fun e => (by cases e), fun e => (by cases e), fun e => (by cases e)⟩
/-- the entry. -/
theorem EnI.entry {p : EnP} {l6 l9 l11 : Bool} {w : World} {a c t : Value} (_hp : p.Ok) (h : EnI p l6 false l9 l11 w a c t) : w.heap[p.b]? = some (.map p.es p.clock) ∧ EnI p l6 true l9 l11 (setBlock w p.b (.map p.es1 p.clock1)) a (.tuple #[p.v0, goInt p.st]) t := by
  have h9 : l9 = false := by cases hc : l9; rfl; exact absurd (h.o97 hc).1 (by simp)
  have h11 : l11 = false := by cases hc : l11; rfl; have := h.o11 hc; rw [h9] at this; cases this
  have hb := h.b0 rfl
  have other : ∀ q, q ≠ p.b → (setBlock w p.b (.map p.es1 p.clock1)).heap[q]? = w.heap[q]? := fun q hq => heap_setBlock_other hb _ hq
  subst h9; subst h11
  refine ⟨hb, h.os, h.tape, h.output, Nat.le_trans h.size (by simp [setBlock]), fun q h1 h2 h3 => (other q h2).trans (h.fr q h1 h2 h3), fun e q h1 h2 => (other q h2).trans (h.fv e q h1 h2), fun e => (by cases e), fun _ _ => heap_setBlock_same hb _, fun e => ?_, fun _ => rfl, fun e => (by cases e), fun e => (by cases e), fun e => (by cases e), fun e => (by cases e)⟩
  obtain ⟨T, e1, e2, e3⟩ := h.a6 e
  exact ⟨T, e1, e2, fun e4 => (e3 e4).of_block (other T (by have := _hp.blt; omega))⟩
/-- the append. -/
theorem EnI.app {p : EnP} {w : World} {a c t : Value} (hp : p.Ok) (h : EnI p true true false false w a c t) (ty : TypeId) :
    ∃ v' w', (Builtin.append_ #[29, 29] ty #[p.v0, a]).run Tryz.prog w = .ok v' w' ∧ EnI p true true true false w' a c v' := by
  obtain ⟨iP, hiP, hzP, hsP, hbP⟩ := info_parts Tryz.infoI
  obtain ⟨T, rfl, hT, hO⟩ := h.a6 rfl
  have hO := hO rfl
  have hbl := hp.blt
  have hsz := h.size
  have ho : w.ownsInts p.Z 3 .i64 p.v0 p.zs := ownsI_same hp.ho fun q hq => h.fv rfl q (hp.ho.1.lt q hq).2 (fun e => hp.hnb (by rw [hq, e]))
  obtain ⟨v', w', hr, h2, h3, _, h5⟩ := run_append_own_at (P := Tryz.prog) w p.Z 29 ty 3 iP _ 1 8 Tryz.underlying29 hiP hzP hsP hbP rfl (by omega) p.v0 p.zs.length (p.zs.map (Value.int .i64)) ho.1 ⟨T, 0, none⟩ 1 1 [.int .i64 p.kk] rfl (fun j u hu => by
    rw [addr_plain, Nat.zero_add]
    exact hO.cell? hu) (fun u hu => by rw [List.mem_singleton] at hu; subst hu; rfl) (by have := hp.hz; have := hp.hn; unfold maxLen; omega) (by have := hp.hz; have := hp.hn; omega) (by have := hp.hZ; omega)
  have hb1 := h.b1 rfl rfl
  have hb' : w'.heap[p.b]? = some (.map p.es1 p.clock1) := (h3.block p.b (by omega) (fun e => hp.hnb e.symm)).trans hb1
  have hown' := ho.appended h2 hp.hk
  have hvb : v'.ownBlock ≠ some p.b := by
    rcases h5 with e | e
    · rw [e]; exact hp.hnb
    · rw [e]; intro g; injection g with g; omega
  refine ⟨v', w', hr, h3.os.trans h.os, h3.tape.trans h.tape, h3.output.trans h.output, Nat.le_trans hsz h3.size, fun q h1 h2 h4 => (h3.block q (by omega) (fun e => h4 e.symm)).trans (h.fr q h1 h2 h4), fun e => (by cases e), fun e => (by cases e), fun _ _ => hb', fun _ => ⟨T, rfl, hT, fun e => (by cases e)⟩, h.e7, fun _ => ⟨rfl, rfl⟩, fun e => (by cases e), fun _ => ⟨?_, fun _ => ownsI_same hown' fun q hq => heap_setBlock_other hb' _ (fun e => hvb (by rw [hq, e]))⟩, fun e => (by cases e)⟩
  rcases h5 with e | e
  · exact Or.inl e
  · exact Or.inr ⟨_, e, hsz⟩
/-- the store. -/
theorem EnI.store {p : EnP} {w : World} {a c t : Value} (hp : p.Ok) (h : EnI p true true true false w a c t) :
    ∃ w', (Instr.entryStore 54 (.map (some p.b)) (goInt p.st) t).run Tryz.prog w = .ok () w' ∧ EnI p true true true true w' a c t := by
  have hbl := hp.blt
  have hsz := h.size
  have hb1 := h.b1 rfl rfl
  obtain ⟨hloc, ho⟩ := h.a9 rfl
  have ho := ho rfl
  have hg : p.W0.grownBy (setBlock w p.b (.map p.es p.clock)) p.v0.ownBlock := ⟨h.os, h.tape, h.output, Nat.le_trans hsz (by simp [setBlock]), fun q hq hne => by
    by_cases e : q = p.b
    · subst e
      rw [heap_setBlock_same hb1, hp.hb]
    · exact (heap_setBlock_other hb1 _ e).trans (h.fr q hq e (fun g => hne g.symm))⟩
  obtain ⟨es', clock', hrun, hown, hwho⟩ := hp.hS w t (p.zs ++ [p.kk]) hg hb1 ho (by have := hp.hz; rw [List.length_append, List.length_singleton]; omega) hloc
  rw [ho.datum_pos (by simp)] at hown
  have other : ∀ q, q ≠ p.b → (setBlock w p.b (.map es' clock')).heap[q]? = w.heap[q]? := fun q hq => heap_setBlock_other hb1 _ hq
  refine ⟨_, hrun, h.os, h.tape, h.output, Nat.le_trans hsz (by simp [setBlock]), fun q h1 h2 h3 => (other q h2).trans (h.fr q h1 h2 h3), fun e => (by cases e), fun e => (by cases e), fun _ e => (by cases e), fun _ => ?_, h.e7, fun _ => ⟨rfl, rfl⟩, fun _ => rfl, fun _ => ⟨hloc, fun e => (by cases e)⟩, fun _ => ⟨hown, ?_⟩⟩
  · obtain ⟨T, e1, e2, _⟩ := h.a6 rfl
    exact ⟨T, e1, e2, fun e => (by cases e)⟩
  · intro es2 clock2 h' x hx e
    rw [heap_setBlock_same hb1] at h'
    injection h' with h'
    injection h' with h' _
    subst h'
    rcases hwho x hx with g | g
    · exact hp.av _ _ hp.hb x g e
    · rw [g] at e
      rcases hloc with e2 | ⟨g2, e2, e3⟩
      · rw [e2] at e
        rcases hp.hsrc with e4 | ⟨y, hy, e4⟩
        · rw [e4] at e; cases e
        · exact hp.av _ _ hp.hb y hy (by rw [e4]; exact e)
      · rw [e2] at e
        injection e with e
        have := hp.hgC
        omega
theorem enP_ex {W0 : World} {Z b nn gC : Nat} {D : DataW Unit} {mi ma kk : Int} (hog : OwnG W0 Z b nn D) (hn : nn ≤ 100000) (h1 : Wf mi) (h2 : Wf ma) (hav : Av W0 b gC) (hgC : gC < W0.heap.size) (hk : Wf kk) (hZ : Z ≤ W0.heap.size) :
    ∃ v0 st zs es clock es1 clock1, (EnP.mk W0 Z b nn gC D (.agg #[.int .i64 mi, .int .i64 ma]) (kP mi ma) v0 st zs es clock es1 clock1 kk).Ok ∧ D.atKey (kP mi ma) .nil = rowDatum .i64 v0 zs := by
  obtain ⟨v0, st, zs, es, clock, es1, clock1, g1, g2, g3, g4, g5, g6, g7, g8⟩ := groups_entry hog (by unfold maxLen; omega) (keyP h1 h2)
  exact ⟨v0, st, zs, es, clock, es1, clock1, ⟨g1, g3, g4, hn, g5, g6, g7, g8, hav, hgC, hk, hZ⟩, g2⟩
theorem step_runA {w w' : World} {ops : Array Oper} {o : Oper} {a : Act} {K : Act → World → Prop} {Q : Exit → Act → World → Prop} {E : Prop} (hgd : o.guard = none) (s x : Operand)
    (ho : o.op = .call { callee := .builtin .append, args := #[s, x], argTypes := #[29, 29] }) (v X v' : Value) (hs : a.eval s = v) (hx : a.eval x = X)
    (hr : (Builtin.append_ #[29, 29] o.type #[v, X]).run Tryz.prog w = .ok v' w') (h : K (a.put o.dst v') w') : if Region.wanted o (yielded ops a.tmps) = true then Oper.wp Tryz.prog o a w K Q else E := by
  have hw : Region.wanted o (yielded ops a.tmps) = true := by simp [Region.wanted, hgd]
  rw [if_pos hw]
  unfold Oper.wp execOp
  simp only [ho, resolve, invoke, builtin, Sem.run_bind, Sem.run_pure, Result.andThen_ok, List.map_toArray, List.map_cons, List.map_nil, hs, hx, hr]
  exact h
/-- What has come up that only reads. -/
structure EnS (S b : Nat) (kk mi ma : Int) (v0 : Value) (st : Nat) (L : Nat → Bool) (s106 s107 s108 s109 s110 s111 s112 s116 : Value) : Prop where
  p0 : L 0 = true → s106 = .pointer (some ⟨S, 0, none⟩)
  p1 : L 1 = true → s107 = .pointer (some ⟨S, 0, none⟩)
  p2 : L 2 = true → s108 = .pointer (some ⟨S, 4, none⟩)
  p3 : L 3 = true → s109 = .map (some b)
  p4 : L 4 = true → s110 = .agg #[.int .i64 mi, .int .i64 ma]
  p5 : L 5 = true → s112 = .int .i64 kk
  p8 : L 8 = true → s111 = v0
  p10 : L 10 = true → s116 = .int .i64 (st : Int)
end Go.Proofs.YtcionneopgdebaaGreat

/-
  The edges gathered from the map of sides: one append into the subdivision's list in a region that draws its order; the map ranged over. By an AI agent.
-/
namespace Go.Proofs.YtcionneopgdebaaGreat
open Go.RowKit Go.Maps
open Go.ChangeMaps Go.ChangeShapes

theorem grown_chg {w w' : World} {c : Nat} (h : w.grownBy w' (some c)) : Chg c w w' := ⟨h.os, h.tape, h.output, h.size, fun k hk hne => h.block k hk (fun e => hne (by injection e))⟩
theorem OwnG.same {w w' : World} {Z b n : Nat} {D : DataW Unit} (h : OwnG w Z b n D) (hb : w'.heap[b]? = w.heap[b]?) (hr : ∀ q, Z ≤ q → q < w.heap.size → w'.heap[q]? = w.heap[q]?) : OwnG w' Z b n D := by
  obtain ⟨es, clock, hbb, F, hs, rfl, hlt, hlen, hap⟩ := h
  have owned : ∀ x ∈ es.toList, ∃ zs, w.ownsInts Z 3 .i64 x.val zs := fun x hx => by
    obtain ⟨y, hy⟩ := F.reads x hx
    obtain ⟨z, hz, _⟩ := WideElems.rd_val hy
    obtain ⟨zs, ho, _⟩ := rowElem_inv hz
    exact ⟨zs, ho⟩
  have keep : ∀ {v zs}, w.ownsInts Z 3 .i64 v zs → w'.ownsInts Z 3 .i64 v zs := fun {v zs} ho => ownsI_same ho fun q hq => hr q (ho.1.lt q hq).1 (ho.1.lt q hq).2
  obtain ⟨F2, hmap, _⟩ := F.stay (R' := rowElem (H := Unit) w' Z 3 .i64) (fun x _ z hz => by
    obtain ⟨zs, ho, rfl⟩ := rowElem_inv hz
    exact rowElem_mk (keep ho))
  refine ⟨es, clock, hb.trans hbb, F2, hs, by rw [hmap], hlt, fun x hx ys ho => ?_, hap⟩
  obtain ⟨zs, h1⟩ := owned x hx
  rw [ho.unique (keep h1)]
  exact hlen x hx zs h1
theorem OwnG.owns {w : World} {Z b n : Nat} {D : DataW Unit} (h : OwnG w Z b n D) : w.ownsMap Tryz.prog 94 (rowElem (H := Unit) w Z 3 .i64) b n D := by
  obtain ⟨es, clock, hbb, F, hs, hD, _⟩ := h
  exact ⟨es, clock, hbb, F, hs, hD⟩
theorem OwnG.sz {w : World} {Z b n : Nat} {D : DataW Unit} (h : OwnG w Z b n D) : Maps.size D ≤ n := by
  obtain ⟨es, clock, hbb, F, hs, rfl, _⟩ := h
  have : (((es.toList.map (WideElems.rg Tryz.prog 94 (rowElem (H := Unit) w Z 3 .i64))).foldr DataW.insert [])).length = es.size := by rw [length_sorted]; simp
  show List.length _ ≤ n
  rw [this]; exact hs
theorem ranges_same {H : Type} {P : Program} {k : TypeId} {R : Value → Option (DataW H × List MemPlace)} {w w' : World} {b r n : Nat} {D : DataW H} {left : Lit → Bool} {cnt : Nat} (h : w.ranges P k R b r n D left cnt) (hb : w'.heap[b]? = w.heap[b]?) (hr : w'.heap[r]? = w.heap[r]?) : w'.ranges P k R b r n D left cnt := by
  obtain ⟨es, clock, since, seen, c0, h1, h2, h3, h4, h5, h6⟩ := h
  exact ⟨es, clock, since, seen, c0, hb.trans h1, h2, h3, h4, hr.trans h5, h6⟩
/-- the next key. -/
theorem wpList_next_pair (w : World) {ops : Array Oper} {rest : List Oper} {o : Oper} {a : Act} {Q : Exit → Act → World → Prop} (hg : o.guard = none) (it : Operand) (hop : o.op = Op.next it false)
    (R : Value → Option (DataW Unit × List MemPlace)) (b r n : Nat) (D : DataW Unit) (m : SdF) (left : Lit → Bool) (cnt : Nat) (hit : a.eval it = .pointer (some ⟨r, 0, none⟩)) (h : w.ranges Tryz.prog 94 R b r n D left cnt) (hag : AgrG D m)
    (hDone : (∀ kl, left kl = false) → wpList Tryz.prog ops Q rest (a.put o.dst (.tuple #[.bool false])) w)
    (hMore : ∀ (x y : Int) (v : Value) (w' : World) (cnt' : Nat), Wf x → Wf y → m x y ≠ [] → left (kP x y) = true → w'.ranges Tryz.prog 94 R b r n D (fun z => left z && !z.sameKey (kP x y)) cnt' → cnt' < cnt → w.grownBy w' (some r) → w'.heap.size = w.heap.size →
      (Instr.entry (.pointer (some ⟨r, 0, none⟩))).run Tryz.prog w' = .ok (.tuple #[.agg #[.int .i64 x, .int .i64 y], v]) w' → wpList Tryz.prog ops Q rest (a.put o.dst (.tuple #[.bool true, .agg #[.int .i64 x, .int .i64 y], v])) w') :
    wpList Tryz.prog ops Q (o :: rest) a w := by
  refine wpList_plain hg fun K' hK' => ?_
  unfold Oper.wp
  rcases h.next keydK o.type with ⟨_, hl, hrun⟩ | ⟨key, v, kl, y, w', cnt', hkey, hlk, hv, hat, hrun, hrg, hlt, hgr, hsz, hen⟩
  · simp [execOp, hop, hit, hrun, Result.andThen]
    exact hK' _ _ (hDone hl)
  · have hh := Maps.has_true_of_atKey hat
    obtain ⟨p, q, hp, hq, rfl⟩ := hag.key kl hh
    obtain rfl := lawK.inj hkey (keyP hp hq)
    rw [hag.has p q hp hq] at hh
    simp [execOp, hop, hit, hrun, Result.andThen]
    exact hK' _ _ (hMore p q v w' cnt' hp hq (of_decide_eq_true hh) hlk hrg hlt hgr hsz hen)

/-- one edge appended: whatever has come up. -/
structure EdI (W0 : World) (R : Nat) (S : Nat) (c0 c1 c2 c4 vE : Value) (M : List (List Int)) (vs : List Value) (x y : Int) (l9 l10 l11 l14 : Bool) (w : World) (s137 s138 s139 : Value) : Prop where
  bel : l11 = false → Below W0.heap.size W0 w
  belR : l14 = false → Below R W0 w
  size : R ≤ w.heap.size
  ho : l14 = false → Own w S 56 [c0, c1, c2, vE, c4]
  hm : l11 = false → MatL w R R vE M vs
  a9 : l9 = true → l11 = false → RowI w R s137 [x, y]
  o10 : l10 = true → l9 = true
  o11 : l11 = true → l10 = true
  o14 : l14 = true → l11 = true
  a10 : l10 = true → l11 = false → MatL w R R s138 [[x, y]] [s137]
  a11 : l11 = true → MatL w R R s139 (M ++ [[x, y]]) (vs ++ [s137])
  f14 : l14 = true → Own w S 56 [c0, c1, c2, s139, c4]
  fr : l14 = true → ∀ q, q < R → q ≠ S → w.heap[q]? = W0.heap[q]?
  hd : w.os = W0.os ∧ w.tape = W0.tape ∧ w.output = W0.output ∧ W0.heap.size ≤ w.heap.size
section
variable {W0 : World} {R S : Nat} {c0 c1 c2 c4 vE : Value} {M : List (List Int)} {vs : List Value} {x y : Int} {l9 l10 l11 l14 : Bool} {w : World} {s137 s138 s139 : Value}
theorem EdI.start (hR : R ≤ W0.heap.size) (ho : Own W0 S 56 [c0, c1, c2, vE, c4]) (hm : MatL W0 R R vE M vs) (a b c : Value) : EdI W0 R S c0 c1 c2 c4 vE M vs x y false false false false W0 a b c :=
  ⟨fun _ => Below.refl _ _, fun _ => Below.refl _ _, hR, fun _ => ho, fun _ => hm, fun e => (by cases e), fun e => (by cases e), fun e => (by cases e), fun e => (by cases e), fun e => (by cases e), fun e => (by cases e), fun e => (by cases e), fun e => (by cases e), ⟨rfl, rfl, rfl, Nat.le_refl _⟩⟩
theorem EdI.pair (hR : R ≤ W0.heap.size) (h : EdI W0 R S c0 c1 c2 c4 vE M vs x y false l10 l11 l14 w s137 s138 s139) : EdI W0 R S c0 c1 c2 c4 vE M vs x y true l10 l11 l14 (w.alloc (.cells #[.int .i64 x, .int .i64 y] 3)) (.slice (some ⟨w.heap.size, 0, none⟩) 2 2) s138 s139 := by
  have h10 : l10 = false := by cases hc : l10; rfl; have := h.o10 hc; cases this
  have h11 : l11 = false := by cases hc : l11; rfl; have := h.o11 hc; rw [h10] at this; cases this
  have h14 : l14 = false := by cases hc : l14; rfl; have := h.o14 hc; rw [h11] at this; cases this
  subst h10; subst h11; subst h14
  have hb : Below w.heap.size w (w.alloc (.cells #[.int .i64 x, .int .i64 y] 3)) := bal_alloc (Below.refl _ _)
  have hsz := h.size
  exact ⟨fun _ => ball (h.bel rfl) hb, fun _ => (ball (h.bel rfl) hb).mono hR, Nat.le_trans hsz hb.size, fun _ => (h.ho rfl).belowAll hb, fun _ => (h.hm rfl).below hb,
    fun _ _ => ⟨rfl, Or.inr ⟨w.heap.size, 2, #[.int .i64 x, .int .i64 y], rfl, hsz, heap_alloc_new w _, Nat.le_refl _, by unfold maxLen; omega, rfl, rfl⟩⟩, fun e => (by cases e), fun e => (by cases e), fun e => (by cases e), fun e => (by cases e), fun e => (by cases e), fun e => (by cases e), fun e => (by cases e), ⟨h.hd.1, h.hd.2.1, h.hd.2.2.1, Nat.le_trans h.hd.2.2.2 hb.size⟩⟩
theorem EdI.lone (hR : R ≤ W0.heap.size) (h : EdI W0 R S c0 c1 c2 c4 vE M vs x y true false l11 l14 w s137 s138 s139) : EdI W0 R S c0 c1 c2 c4 vE M vs x y true true l11 l14 (w.alloc (.cells #[s137] 29)) s137 (.slice (some ⟨w.heap.size, 0, none⟩) 1 1) s139 := by
  have h11 : l11 = false := by cases hc : l11; rfl; have := h.o11 hc; cases this
  have h14 : l14 = false := by cases hc : l14; rfl; have := h.o14 hc; rw [h11] at this; cases this
  subst h11; subst h14
  have hb : Below w.heap.size w (w.alloc (.cells #[s137] 29)) := bal_alloc (Below.refl _ _)
  have hsz := h.size
  exact ⟨fun _ => ball (h.bel rfl) hb, fun _ => (ball (h.bel rfl) hb).mono hR, Nat.le_trans hsz hb.size, fun _ => (h.ho rfl).belowAll hb, fun _ => (h.hm rfl).below hb,
    fun _ _ => (h.a9 rfl rfl).below hb, fun _ => rfl, fun e => (by cases e), fun e => (by cases e), fun _ _ => MatL.one w R R s137 [x, y] (CellO.of_row (h.a9 rfl rfl)) hsz, fun e => (by cases e), fun e => (by cases e), fun e => (by cases e), ⟨h.hd.1, h.hd.2.1, h.hd.2.2.1, Nat.le_trans h.hd.2.2.2 hb.size⟩⟩
theorem EdI.app (hS : S < R) (hl : M.length ≤ 100000) (h : EdI W0 R S c0 c1 c2 c4 vE M vs x y true true false l14 w s137 s138 s139) (ty : TypeId) :
    ∃ v' w', (Builtin.append_ #[26, 26] ty #[vE, s138]).run Tryz.prog w = .ok v' w' ∧ EdI W0 R S c0 c1 c2 c4 vE M vs x y true true true l14 w' s137 s138 v' := by
  have h14 : l14 = false := by cases hc : l14; rfl; have := h.o14 hc; cases this
  subst h14
  have hsz := h.size
  obtain ⟨v', w', hr, hm, hb⟩ := (h.hm rfl).run ty (h.a10 rfl rfl) hl (by simp) hsz
  exact ⟨v', w', hr, fun e => (by cases e), fun _ => (h.belR rfl).trans hb, Nat.le_trans hsz hb.size, fun _ => (h.ho rfl).below hb hS, fun e => (by cases e), fun _ e => (by cases e), fun _ => rfl, fun _ => rfl, fun e => (by cases e), fun _ e => (by cases e), fun _ => hm, fun e => (by cases e), fun e => (by cases e), ⟨hb.os.trans h.hd.1, hb.tape.trans h.hd.2.1, hb.output.trans h.hd.2.2.1, Nat.le_trans h.hd.2.2.2 hb.size⟩⟩
theorem EdI.store (hS : S < R) (h : EdI W0 R S c0 c1 c2 c4 vE M vs x y true true true false w s137 s138 s139) : EdI W0 R S c0 c1 c2 c4 vE M vs x y true true true true (w.setCell ⟨S, 3, none⟩ s139) s137 s138 s139 := by
  have hc := Chg.set S 3 w s139
  exact ⟨fun e => (by cases e), fun e => (by cases e), Nat.le_trans h.size hc.size, fun e => (by cases e), fun e => (by cases e), fun _ e => (by cases e), fun _ => rfl, fun _ => rfl, fun _ => rfl, fun _ e => (by cases e), fun _ => (h.a11 rfl).chg hc hS hS, fun _ => (h.ho rfl).set 3 s139, fun _ q hq hne => (Below.heap_setCell _ _ _ _ hne).trans ((h.belR rfl).block q hq), ⟨h.hd.1, h.hd.2.1, h.hd.2.2.1, Nat.le_trans h.hd.2.2.2 hc.size⟩⟩
end
theorem step_runL {w w' : World} {ops : Array Oper} {o : Oper} {a : Act} {K : Act → World → Prop} {Q : Exit → Act → World → Prop} {E : Prop} (hgd : o.guard = none) (s x : Operand)
    (ho : o.op = .call { callee := .builtin .append, args := #[s, x], argTypes := #[26, 26] }) (v X v' : Value) (hs : a.eval s = v) (hx : a.eval x = X)
    (hr : (Builtin.append_ #[26, 26] o.type #[v, X]).run Tryz.prog w = .ok v' w') (h : K (a.put o.dst v') w') : if Region.wanted o (yielded ops a.tmps) = true then Oper.wp Tryz.prog o a w K Q else E := by
  have hw : Region.wanted o (yielded ops a.tmps) = true := by simp [Region.wanted, hgd]
  rw [if_pos hw]
  unfold Oper.wp execOp
  simp only [ho, resolve, invoke, builtin, Sem.run_bind, Sem.run_pure, Result.andThen_ok, List.map_toArray, List.map_cons, List.map_nil, hs, hx, hr]
  exact h
/-- what has come up that only reads. -/
structure EdS (S E : Nat) (x y : Int) (vE : Value) (L : Nat → Bool) (s128 s129 s130 s131 s132 s133 s134 s135 s136 s140 s141 : Value) : Prop where
  p0 : L 0 = true → s128 = .pointer (some ⟨S, 0, none⟩)
  p1 : L 1 = true → s129 = .pointer (some ⟨S, 0, none⟩)
  p2 : L 2 = true → s130 = .pointer (some ⟨S, 0, none⟩)
  p3 : L 3 = true → s131 = .pointer (some ⟨S, 3, none⟩)
  p4 : L 4 = true → s132 = vE
  p5 : L 5 = true → s133 = .pointer (some ⟨E, 0, none⟩)
  p6 : L 6 = true → s134 = .int .i64 x
  p7 : L 7 = true → s135 = .pointer (some ⟨E, 1, none⟩)
  p8 : L 8 = true → s136 = .int .i64 y
  p12 : L 12 = true → s140 = .pointer (some ⟨S, 0, none⟩)
  p13 : L 13 = true → s141 = .pointer (some ⟨S, 3, none⟩)
  q9 : L 9 = true → L 6 = true ∧ L 8 = true
  q11 : L 11 = true → L 4 = true

/-! ### the subdivision in memory -/
theorem RdZ.low {w : World} {R R' : Nat} {ad : Option Addr} {M : List (List Int)} (h : RdZ w R ad M) (hR : R' ≤ R) : RdZ w R' ad M := fun i hi => by
  obtain ⟨b, off, a, c, e, h1, h2, h3, h4, h5⟩ := h i hi
  exact ⟨b, off, a, c, e, by omega, h2, h3, h4, fun q hq => ⟨by have := (h5 q hq).1; omega, (h5 q hq).2⟩⟩
structure SubD where
  bp : Nat
  op : Nat
  cpp : Nat
  adC : Option Addr
  capC : Nat
  adE : Option Addr
  capE : Nat
  b : Nat
  Z : Nat
  nn : Nat
  D : DataW Unit
  E : List (List Int)
/-- What the pointer to a subdivision leads to. -/
structure SubM (w : World) (S : Nat) (L : List Tm) (lt : Value) (d : SubD) : Prop where
  own : Own w S 56 [lt, .slice (some ⟨d.bp, d.op, none⟩) L.length d.cpp, .slice d.adC (celA L).length d.capC, .slice d.adE d.E.length d.capE, .map (some d.b)]
  hbp : d.bp < w.heap.size
  pt : ∀ j, j < L.length → w.cell? ⟨d.bp, d.op + j * 2, none⟩ = some (.int .i64 (tmAt L j).i) ∧ w.cell? ⟨d.bp, d.op + j * 2 + 1, none⟩ = some (.int .i64 (tmAt L j).j)
  cells : RdZ w 0 d.adC (celA L)
  capC : (celA L).length ≤ d.capC
  edges : RdZ w 0 d.adE d.E
  capE : d.E.length ≤ d.capE
  lenE : d.E.length ≤ 100000
  edg : EdgF (sdA L (celA L) (celA L).length) d.E
  map : OwnG w d.Z d.b d.nn d.D
  hnn : d.nn ≤ 100000
  agr : AgrG d.D (sdA L (celA L) (celA L).length)
theorem SubM.below {w w' : World} {S : Nat} {L : List Tm} {lt : Value} {d : SubD} (h : SubM w S L lt d) (hb : Below w.heap.size w w') : SubM w' S L lt d :=
  ⟨h.own.belowAll hb, Nat.lt_of_lt_of_le h.hbp hb.size, fun j hj => ⟨bcell hb h.hbp (h.pt j hj).1, bcell hb h.hbp (h.pt j hj).2⟩, h.cells.below hb, h.capC, h.edges.below hb, h.capE, h.lenE, h.edg, h.map.below hb, h.hnn, h.agr⟩
/-- What subdivide gives. -/
def SubR (L : List Tm) (lt : Value) (w : World) (e : Ending) (w' : World) : Prop := ∃ (S : Nat) (d : SubD), e = .returned (.pointer (some ⟨S, 0, none⟩)) ∧ SubM w' S L lt d ∧ Below w.heap.size w w'
end Go.Proofs.YtcionneopgdebaaGreat

/-
  The subdivision of a plane polynomial: the program's. By an AI agent.
-/
namespace Go.Proofs.YtcionneopgdebaaGreat
open Go.RowKit Go.Maps

theorem halfF_one (l : List Pt) (h : 1 < l.length) : 0 < (halfF l).dropLast.length := by
  have := halfF_two l h
  rw [List.length_dropLast]; omega
theorem hulX_pos {L : List Tm} {xs : List Int} (h : 0 < xs.length) : 0 < (hulX L xs).length := by
  have h1 : 0 < (pySortF (ptsX L xs)).length := pySortF_pos (by unfold ptsX; rw [List.length_map]; exact h)
  unfold hulX hullF
  split
  · exact h1
  · have := halfF_one (pySortF (ptsX L xs)) (by omega)
    rw [List.length_append]; omega
theorem corX_in {L : List Tm} {xs : List Int} (hl : L.length ≤ 12) (hin : ∀ x ∈ xs, ∃ t : Nat, x = t ∧ t < L.length) : ∀ y ∈ corX L xs, 0 ≤ y ∧ y ≤ 1000000 ∧ y < L.length := fun y hy => by
  unfold corX at hy
  obtain ⟨p, hp, rfl⟩ := List.mem_map.1 hy
  obtain ⟨t, _, ht, rfl⟩ := hulX_in hin p hp
  obtain ⟨h1, _⟩ := posF_lt (ptsL_mem L ht)
  rw [ptsL_len] at h1
  omega
theorem ownG_start {w : World} {Z b : Nat} (h : w.heap[b]? = some (.map #[] 0)) (hb : b < Z) : OwnG w Z b 0 (.map []) :=
  ⟨#[], 0, h, ⟨by simp, MapKept.stamped_empty 0, by simp⟩, Nat.le_refl _, rfl, hb, by simp, by simp⟩
set_option maxHeartbeats 6400000 in
set_option maxRecDepth 100000 in
theorem subdivide_c (bl ol cap : Nat) (L : List Tm) (w : World) (hr : RdT w (some ⟨bl, ol, none⟩) L) (hp : ∀ k, k < L.length → termB (tmAt L k) = true) (hl : L.length ≤ 12) (h0 : 0 < L.length) :
    Calls Tryz.prog 48 #[.slice (some ⟨bl, ol, none⟩) L.length cap] w (SubR L (.slice (some ⟨bl, ol, none⟩) L.length cap) w) := by
  have CP := Lib.hid (fun w (h : RdT w (some ⟨bl, ol, none⟩) L) => pointsOf_c (some ⟨bl, ol, none⟩) cap L w h hl)
  have HCEL := Lib.hid (fun S bp op cpp a b c w (h1 : RdT w (some ⟨bl, ol, none⟩) L) hS k0 k1 hbp hpt ha hb hc => cellOf_c S bl ol cap bp op cpp L a b c w h1 hS k0 k1 hbp hpt ha hb hc hp hl)
  have HR := Lib.hid hr
  have HPL := Lib.hid (show (ptsL L L.length).length = L.length from ptsL_len L _)
  have HPA := Lib.hid (fun j (hj : j < L.length) => ptsL_at L hj)
  obtain ⟨n, hn⟩ : ∃ n, L.length = n := ⟨_, rfl⟩
  rw [hn] at CP hl h0 HPL HPA ⊢
  have HN := Lib.hid hn
  have HP := Lib.hid hp
  have hmm := @run_makeMap Tryz.prog
  clear hn hp hr
  go_enter Tryz.func48, Tryz.ntmps48
  go_wp2_with fail
  refine (CP.out _ HR.out).mono ?_
  rintro e w1 ⟨vp, rfl, hrow, hb1⟩
  obtain ⟨adp, cpp, rfl, _⟩ := hrow.shape
  rw [HPL.out] at hrow ⊢
  obtain ⟨bp, op, rfl, hbp, hpB, hpt⟩ : ∃ bp op, adp = some ⟨bp, op, none⟩ ∧ bp < w1.heap.size ∧ w.heap.size ≤ bp ∧ ∀ j, j < L.length → w1.cell? ⟨bp, op + j * 2, none⟩ = some (.int .i64 (tmAt L j).i) ∧ w1.cell? ⟨bp, op + j * 2 + 1, none⟩ = some (.int .i64 (tmAt L j).j) := by
    have hrd := hrow.rd
    obtain ⟨bp, op, e, hlt⟩ := RdP.some hrd (by rw [HPL.out]; exact h0)
    subst e
    refine ⟨bp, op, rfl, hlt, (World.ownsRow.lt hrow bp rfl).1, fun j hj => ?_⟩
    have hj' : j < n := by have := HN.out; omega
    have := RdP.at hrd (j := j) (by rw [HPL.out]; exact hj')
    rw [HPA.out j hj'] at this
    exact this
  have hwz := hb1.size
  -- the memory at the beginning
  obtain ⟨b, hb⟩ : ∃ b, w1.heap.size = b := ⟨_, rfl⟩
  obtain ⟨S, hS⟩ : ∃ S, b + 1 = S := ⟨_, rfl⟩
  obtain ⟨W, hW⟩ : ∃ W, (w1.alloc (.map #[] 0)).alloc (.cells #[.slice (some ⟨bl, ol, none⟩) n cap, .slice (some ⟨bp, op, none⟩) n cpp, .slice none 0 0, .slice none 0 0, .map (some b)] 56) = W := ⟨_, rfl⟩
  have hWS : W.heap.size = S + 1 := by rw [← hW]; simp; omega
  have hW1 : Below w1.heap.size w1 W := by rw [← hW]; exact bal_alloc (bal_alloc (Below.refl _ _))
  have hWm : W.heap[b]? = some (.map #[] 0) := by
    rw [← hW, ← hb]
    rw [Deep.blk_alloc_lt _ _ _ (by simp)]
    exact (MapKept.heap_alloc w1 _).1
  have hWO : Own W S 56 [.slice (some ⟨bl, ol, none⟩) n cap, .slice (some ⟨bp, op, none⟩) n cpp, .slice none 0 0, .slice none 0 0, .map (some b)] := by
    rw [← hW]
    exact Own.newHG _ _ _ rfl (by simp; omega)
  have hWr : RdT W (some ⟨bl, ol, none⟩) L := (HR.out.below hb1).below hW1
  have hWb : Below w.heap.size w W := ball hb1 hW1
  have hWp : ∀ j, j < L.length → W.cell? ⟨bp, op + j * 2, none⟩ = some (.int .i64 (tmAt L j).i) ∧ W.cell? ⟨bp, op + j * 2 + 1, none⟩ = some (.int .i64 (tmAt L j).j) := fun j hj => ⟨bcell hW1 hbp (hpt j hj).1, bcell hW1 hbp (hpt j hj).2⟩
  obtain ⟨bl0, ol0, hle, hbl, _⟩ := HR.out 0 (by rw [HN.out]; exact h0)
  injection hle with hle
  injection hle with hle1 hle2 _
  subst hle1; subst hle2
  have hbls : bl < S := by omega
  have hbps : bp < S := by omega
  have hI0 : InvC W S b (.slice (some ⟨bl, ol, none⟩) n cap) (.slice (some ⟨bp, op, none⟩) n cpp) [] W := ⟨⟨_, [], MatL.nil _ _ _, hWO⟩, Below.refl _ _, by omega⟩
  -- what the call of cellOf does in such a memory
  have HCALL := Lib.hid (fun (M : List (List Int)) (x y z : Nat) (wr : World) (h : InvC W S b (.slice (some ⟨bl, ol, none⟩) n cap) (.slice (some ⟨bp, op, none⟩) n cpp) M wr) (hx : x < n) (hy : y < n) (hz : z < n) => show Calls Tryz.prog 73 #[.pointer (some ⟨S, 0, none⟩), .int .i64 x, .int .i64 y, .int .i64 z] wr (CelR (celB L x y z) (celL L x y z) wr) from by
    obtain ⟨v, vs, _, hO⟩ := h.ex
    have hsz := h.bel.size
    have hbw : ∀ {k : Nat}, k < S → wr.heap[k]? = W.heap[k]? := fun {k} hk => h.bel.block k hk
    refine HCEL.out S bp op cpp x y z wr (fun j hj => ?_) hO.lt (by rw [HN.out]; exact hO.cell? (i := 0) rfl) (by rw [HN.out]; exact hO.cell? (i := 1) rfl) (by have := hO.lt; omega) (fun j hj => ?_) (by rw [HN.out]; exact hx) (by rw [HN.out]; exact hy) (by rw [HN.out]; exact hz)
    · obtain ⟨b', o', e, h1, c0, c1, c2⟩ := hWr j hj
      injection e with e
      injection e with e1 e2 _
      subst e1; subst e2
      exact ⟨bl, ol, rfl, by have := hO.lt; omega, bcell h.bel hbls c0, bcell h.bel hbls c1, bcell h.bel hbls c2⟩
    · exact ⟨bcell h.bel hbps (hWp j hj).1, bcell h.bel hbps (hWp j hj).2⟩)
  have HI0 := Lib.hid hI0
  have HWB := Lib.hid hWb
  have HWR := Lib.hid hWr
  have HWP := Lib.hid hWp
  have HWM := Lib.hid hWm
  have HWS := Lib.hid hWS
  have hSW : S ≤ W.heap.size := by omega
  clear hI0 hWb hWr hWp hWm hWO hpt hrow hb1 hW1 HCEL CP HPA HPL hwz
  go_wp2_with fail
  try rw [hb]
  try rw [hS]
  try rw [hW]
  clear hW
  go_loopw [26] (fun i wr => ∃ k : Nat, k ≤ n ∧ i = .int .i64 k ∧ InvC W S b (.slice (some ⟨bl, ol, none⟩) n cap) (.slice (some ⟨bp, op, none⟩) n cpp) (cel1 L k) wr) (fun i _ => n - (intOf i).toNat)
  case atStart => exact ⟨0, Nat.zero_le _, rfl, HI0.out⟩
  case round =>
    obtain ⟨wA, rfl⟩ : ∃ y : World, y = wr := ⟨_, rfl⟩
    obtain ⟨x, hx, rfl, hinv⟩ := hrel
    have HIV := Lib.hid hinv; clear hinv
    by_cases hlt : x < n
    case neg =>
      obtain rfl : n = x := by omega
      clear HCALL HI0 hx hlt
      -- sorted
      obtain ⟨v, vs, hM, hO⟩ := HIV.out.ex
      have hsz := HIV.out.size
      have hbel := HIV.out.bel
      have hlen : (cel1 L n).length ≤ 2000 := by
        have h1 := cel1_len L (by rw [HN.out]; exact hl) n
        omega
      have hrs := hM.rowS (fun x hx => by
        obtain ⟨a, b, c, _, rfl⟩ := cel1_in hx
        have := onL3_len L a b c L.length
        have := HN.out
        unfold celL
        omega)
      have hA : LstSort.compactF (LstSort.srt (cel1 L n)) = celA L := by rw [← HN.out]; exact cel_sorted L
      have HA := Lib.hid hA
      generalize cel1 L n = M at hM hrs hlen HA
      obtain ⟨ad, cp, rfl, _⟩ := hM.shape
      have CS := Lib.hid (sortM_c (S + 1) _ M wA hrs (by omega) hsz)
      obtain ⟨NM, hNM⟩ : ∃ k, M.length = k := ⟨_, rfl⟩
      rw [hNM] at CS hO
      have k2 := hO.cell? (i := 2) rfl
      have HO := Lib.hid hO
      have HB := Lib.hid hbel
      unfold LstSort.cmpV at CS
      have hNS : (LstSort.srt M).length ≤ 2000 := by rw [LstSort.srt_length]; exact hlen
      clear hM hrs hA hO hbel HIV
      go_wp2_with fail
      refine CS.out.mono ?_
      rintro e wB ⟨rfl, hrs, hbB⟩
      have hszB := hbB.size
      have CC := Lib.hid (compactM_c (S + 1) _ (LstSort.srt M) wB hrs (by omega) (by omega))
      rw [HA.out] at CC
      unfold LstSort.eqV at CC
      have HO2 := Lib.hid (HO.out.below hbB (Nat.lt_succ_self S))
      have HB2 := Lib.hid (HB.out.trans (hbB.mono (Nat.le_succ S)))
      have k2 := HO2.out.cell? (i := 2) rfl
      have hsz2 : S + 1 ≤ wB.heap.size := by omega
      clear HO HB hrs hbB CS HA hNS hNM hlen hszB hsz
      go_wp2_with fail
      refine CC.out.mono ?_
      rintro e wC ⟨v2, rfl, hrs2, hbC⟩
      have HO3 := Lib.hid (HO2.out.below hbC (Nat.lt_succ_self S))
      have HB3 := Lib.hid (HB2.out.trans (hbC.mono (Nat.le_succ S)))
      have k3 := HO3.out.cell? (i := 2) rfl
      have f3 := HO3.out.frozen 2
      have hsz3 : S + 1 ≤ wC.heap.size := by have := hbC.size; omega
      obtain ⟨adC, capC, rfl, hcC, hrz⟩ := hrs2.rdz
      have HRZ := Lib.hid hrz
      have HLC := Lib.hid (celA_len L (by rw [HN.out]; exact hl))
      clear hrs2 hrz hbC HO2 HB2 CC k2
      obtain ⟨C, hC⟩ : ∃ C, celA L = C := ⟨_, rfl⟩
      have HC := Lib.hid hC
      rw [hC] at HRZ hcC HLC ⊢
      obtain ⟨nC, hnC⟩ : ∃ k, C.length = k := ⟨_, rfl⟩
      have HNC := Lib.hid hnC
      rw [hnC] at hcC HLC ⊢
      clear hC hnC
      -- the memory at the cells' loop
      have hO4 := HO3.out.set 2 (.slice adC (nC : Nat) capC)
      have HB4 := Lib.hid (HB3.out.setCell (p := ⟨S, 2, none⟩) (Nat.le_refl S) (.slice adC (nC : Nat) capC))
      have HRZ4 := Lib.hid (HRZ.out.frame (w' := wC.setCell ⟨S, 2, none⟩ (.slice adC (nC : Nat) capC)) (by rw [World.size_setCell]; exact Nat.le_refl _) (fun k hk _ => Below.heap_setCell _ _ _ _ (show k ≠ S by omega)))
      have HS4 := Lib.hid (show S + 1 ≤ (wC.setCell ⟨S, 2, none⟩ (.slice adC (nC : Nat) capC)).heap.size by rw [World.size_setCell]; exact hsz3)
      have HO4 := Lib.hid (show Own (wC.setCell ⟨S, 2, none⟩ (.slice adC (nC : Nat) capC)) S 56 [.slice (some ⟨bl, ol, none⟩) n cap, .slice (some ⟨bp, op, none⟩) n cpp, .slice adC (nC : Nat) capC, .slice none 0 0, .map (some b)] from hO4)
      obtain ⟨WZ, hWZ⟩ : ∃ X, wC.setCell ⟨S, 2, none⟩ (.slice adC (nC : Nat) capC) = X := ⟨_, rfl⟩
      have k5 := HO4.out.cell? (i := 2) rfl
      rw [hWZ] at HB4 HRZ4 HS4 HO4 k5
      clear hO4 HO3 HB3 HRZ hsz3
      go_wp2_with fail
      clear hWZ k5
      obtain ⟨Z, hZ⟩ : ∃ z, WZ.heap.size = z := ⟨_, rfl⟩
      have hOG0 : OwnG WZ Z b 0 (.map []) := ownG_start (by rw [HB4.out.block b (by omega)]; exact HWM.out) (by have := HS4.out; omega)
      have HOG0 := Lib.hid hOG0
      have hZS : S + 1 ≤ Z := by have := HS4.out; omega
      have HCI := Lib.hid (fun k (hk : k < nC) => show C.getD k [] ≠ [] ∧ (C.getD k []).length ≤ n ∧ ∀ y ∈ C.getD k [], ∃ t : Nat, y = t ∧ t < L.length from by
        have h := celA_in (L := L) (x := C.getD k []) (by rw [HC.out, List.getD_eq_getElem?_getD, List.getElem?_eq_getElem (by rw [HNC.out]; exact hk), Option.getD_some]; exact List.getElem_mem _)
        rw [HN.out] at h
        rw [HN.out]
        exact h)
      have HZ := Lib.hid hZ
      have hnC := HLC.out
      clear hOG0 hZ HWM
      go_loopw [81] (fun i wr => ∃ (k nn : Nat) (D : DataW Unit), k ≤ nC ∧ i = .int .i64 k ∧ nn ≤ 24 * k ∧ OwnG wr Z b nn D ∧ AgrG D (sdA L C k) ∧ WZ.grownBy wr (some b)) (fun i _ => nC - (intOf i).toNat)
      case atStart => exact ⟨0, 0, _, Nat.zero_le _, rfl, Nat.le_refl _, HOG0.out, agrG_made, ⟨rfl, rfl, rfl, Nat.le_refl _, fun _ _ _ => rfl⟩⟩
      case round =>
        obtain ⟨wD, rfl⟩ : ∃ y : World, y = wr := ⟨_, rfl⟩
        obtain ⟨k, nn, D, hk, rfl, hnn, hog, hag, hgr⟩ := hrel
        have HOG := Lib.hid hog; have HAG := Lib.hid hag; have HGR := Lib.hid hgr
        have hgs := hgr.size
        clear hog hag hgr HOG0
        have HOS := Lib.hid (HO4.out.grown HGR.out (by simp; omega))
        by_cases hkt : k < nC
        case neg =>
          obtain rfl : nC = k := by omega
          have hogw := HOG.out.owns
          have k4 := HOS.out.cell? (i := 4) rfl
          have hszN := HOG.out.sz
          have hnn2 : nn ≤ 100000 := by omega
          obtain ⟨mm, hmm2⟩ : ∃ z, sdA L C nC = z := ⟨_, rfl⟩
          rw [hmm2] at HAG
          have HMM := Lib.hid hmm2
          clear hmm2 HCI
          go_wp2_with (first
            | (at_range; refine wpList_range_own _ rfl _ 54 rfl 94 29 keydK undM (rowElem (H := Unit) wD Z 3 .i64) b nn D rfl hogw ?_; intro w3 hrg0 hg0 hs0)
            | go_in)
          go_frame
          obtain ⟨r, hr⟩ : ∃ r, wD.heap.size = r := ⟨_, rfl⟩
          rw [hr] at hrg0 hs0 ⊢
          have HRS := Lib.hid hr
          have hrS : S < r := by have := HZ.out; omega
          have hS3 := HOS.out.grown hg0 (by simp)
          have HG0 := Lib.hid hg0
          have HRG0 := Lib.hid hrg0
          have HO30 := Lib.hid hS3
          generalize rowElem (H := Unit) wD Z 3 .i64 = RR at HRG0 hrg0 hogw
          clear hrg0 hg0 hS3 hogw k4 hr
          go_loopw [16] (fun _ wr => ∃ (left : Lit → Bool) (cnt : Nat) (ks : List (Int × Int)) (vE : Value) (vs : List Value), wr.ranges Tryz.prog 94 RR b r nn D left cnt ∧ KsOk mm left ks ∧ ks.length + cnt ≤ nn ∧ MatL wr (r + 1) (r + 1) vE (ks.map prL) vs ∧ Own wr S 56 [.slice (some ⟨bl, ol, none⟩) n cap, .slice (some ⟨bp, op, none⟩) n cpp, .slice adC (nC : Nat) capC, vE, .map (some b)] ∧ (∀ q, q < r → q ≠ S → wr.heap[q]? = wD.heap[q]?) ∧ (wr.os = wD.os ∧ wr.tape = wD.tape ∧ wr.output = wD.output) ∧ r + 1 ≤ wr.heap.size) (fun _ wr => wr.rangeLeft b r)
          case atStart => exact ⟨_, _, [], _, [], HRG0.out, KsOk.start HAG.out, by simpa using hszN, MatL.nil _ _ _, HO30.out, fun q hq _ => HG0.out.block q (by rw [HRS.out]; exact hq) (by simp), ⟨HG0.out.os, HG0.out.tape, HG0.out.output⟩, by omega⟩
          case round =>
            obtain ⟨wE, rfl⟩ : ∃ y : World, y = wr := ⟨_, rfl⟩
            obtain ⟨left, cnt, ks, vE, vs, hrg, hks, hkc, hmt, hoE, hfr, hhd, hsz9⟩ := hrel
            have HKS := Lib.hid hks; have HMT := Lib.hid hmt; have HOE := Lib.hid hoE; have HFR := Lib.hid hfr; have HHD := Lib.hid hhd; have HRG := Lib.hid hrg
            clear hks hmt hoE hfr hhd HRG0 HG0 HO30
            go_wp2_with (first
              | (at_next; refine wpList_next_pair _ rfl _ rfl RR b r nn D mm left cnt rfl hrg HAG.out ?_ ?_)
              | go_in)
            · intro hlf
              clear hrg
              have hrs := HMT.out.rowS (fun z hz => by
                obtain ⟨e, _, rfl⟩ := List.mem_map.1 hz
                show ([e.1, e.2] : List Int).length ≤ 100000
                simp)
              have HEG := Lib.hid (KsOk.edges HKS.out hlf)
              have hkl : (ks.map prL).length ≤ 100000 := by rw [List.length_map]; omega
              generalize ks.map prL = EE at HMT hrs HEG hkl
              obtain ⟨ad2, cp2, rfl, _⟩ := HMT.out.shape
              have CS := Lib.hid (sortM_c (r + 1) _ EE wE hrs hkl hsz9)
              unfold LstSort.cmpV at CS
              obtain ⟨NE, hNE⟩ : ∃ z, EE.length = z := ⟨_, rfl⟩
              rw [hNE] at CS
              have hoE := HOE.out
              rw [hNE] at hoE
              have k3 := hoE.cell? (i := 3) rfl
              have HOE3 := Lib.hid hoE
              have hSE : (LstSort.srt EE).length = NE := by rw [LstSort.srt_length]; exact hNE
              have HSE := Lib.hid hSE
              rw [hNE] at hkl
              clear hoE hrs HMT hNE hSE HKS hkc
              go_wp2_with fail
              refine CS.out.mono ?_
              rintro e w5 ⟨rfl, hrs5, hb5⟩
              obtain ⟨ad5, cp5, he5, hc5, hrz5⟩ := hrs5.rdz
              rw [HSE.out] at he5 hc5
              injection he5 with he51 _ he53
              subst he51; subst he53
              have hO5 := HOE3.out.below hb5 (by omega)
              have hsz5 := hb5.size
              have hZr : Z ≤ r := by have := HRS.out; have := HZ.out; omega
              have hblk : ∀ q, q < r → q ≠ S → w5.heap[q]? = wD.heap[q]? := fun q hq hne => (hb5.block q (by omega)).trans (HFR.out q hq hne)
              have hbpZ : bp < WZ.heap.size ∧ bp ≠ b := ⟨by have := HZ.out; omega, by have := HZ.out; omega⟩
              have HSUB := Lib.hid (show SubM w5 S L (.slice (some ⟨bl, ol, none⟩) n cap) ⟨bp, op, cpp, adC, capC, ad2, cp2, b, Z, nn, D, LstSort.srt EE⟩ from by
                have hcell : ∀ {o : Nat} {u : Value}, W.cell? ⟨bp, o, none⟩ = some u → w5.cell? ⟨bp, o, none⟩ = some u := fun {o u} hu => by
                  have h1 := bcell HB4.out hbps hu
                  have h2 := (World.cell?_of_block (w := WZ) (a := ⟨bp, o, none⟩) (HGR.out.block bp hbpZ.1 (fun e => hbpZ.2 (by injection e)))).trans h1
                  exact (World.cell?_of_block (w := wD) (a := ⟨bp, o, none⟩) (hblk bp (by omega) (by omega))).trans h2
                refine ⟨?_, by show bp < w5.heap.size; omega, fun j hj => ⟨hcell (HWP.out j hj).1, hcell (HWP.out j hj).2⟩, ?_, ?_, hrz5.low (Nat.zero_le _), ?_, ?_, ?_, HOG.out.same (hblk b (by omega) (by omega)) (fun q h1 h2 => hblk q (by have := HRS.out; omega) (by omega)), hnn2, ?_⟩
                · show Own w5 S _ [_, .slice (some ⟨bp, op, none⟩) (L.length : Nat) cpp, .slice adC ((celA L).length : Nat) capC, .slice ad2 ((LstSort.srt EE).length : Nat) cp2, _]
                  rw [HN.out, HC.out, HNC.out, HSE.out]
                  exact hO5
                · show RdZ w5 0 adC (celA L)
                  rw [HC.out]
                  exact ((HRZ4.out.frame HGR.out.size (fun q hq hq2 => HGR.out.block q hq2 (by simp; omega))).frame (w' := w5) (by have := HRS.out; omega) (fun q hq hq2 => hblk q (by have := HRS.out; omega) (by omega))).low (Nat.zero_le _)
                · show (celA L).length ≤ capC
                  rw [HC.out, HNC.out]; exact hcC
                · show (LstSort.srt EE).length ≤ cp2
                  rw [HSE.out]; exact hc5
                · show (LstSort.srt EE).length ≤ 100000
                  rw [HSE.out]; exact hkl
                · show EdgF (sdA L (celA L) (celA L).length) (LstSort.srt EE)
                  rw [HC.out, HNC.out, HMM.out]; exact HEG.out
                · show AgrG D (sdA L (celA L) (celA L).length)
                  rw [HC.out, HNC.out, HMM.out]; exact HAG.out)
              have HBF := Lib.hid (show Below w.heap.size w w5 from by
                have hwW := HWB.out
                refine ⟨hb5.os.trans (HHD.out.1.trans (HGR.out.os.trans (HB4.out.os.trans hwW.os))), hb5.tape.trans (HHD.out.2.1.trans (HGR.out.tape.trans (HB4.out.tape.trans hwW.tape))), hb5.output.trans (HHD.out.2.2.trans (HGR.out.output.trans (HB4.out.output.trans hwW.output))), ?_, fun q hq => ?_⟩
                · have := hwW.size; have := HB4.out.size; have := HGR.out.size; have := HRS.out; omega
                · have hqS : q < S := by omega
                  exact (hblk q (by omega) (by omega)).trans ((HGR.out.block q (by have := HZ.out; omega) (fun e => by injection e with e; omega)).trans ((HB4.out.block q hqS).trans (hwW.block q hq))))
              clear hrs5 hrz5 hO5 hblk hb5 HOE3 CS k3
              go_wp2_with fail
              go_ret
              exact ⟨S, _, rfl, HSUB.out, HBF.out⟩
            · intro x y v w4 cnt4 hwx hwy hmne hlft hrg4 hlt hg4 hs4 hen
              clear hrg
              have HRG4 := Lib.hid hrg4
              have hM4 := HMT.out.chg (grown_chg hg4) (Nat.lt_succ_self r) (Nat.lt_succ_self r)
              have hO4 := HOE.out.grown hg4 (fun e => by injection e with e; omega)
              have HKS4 := Lib.hid (HKS.out.step HAG.out hwx hwy hmne hlft)
              have HF4 := Lib.hid (show ∀ q, q < r → q ≠ S → w4.heap[q]? = wD.heap[q]? from fun q hq hne => (hg4.block q (by omega) (fun e => by injection e with e; omega)).trans (HFR.out q hq hne))
              have HD4 := Lib.hid (show w4.os = wD.os ∧ w4.tape = wD.tape ∧ w4.output = wD.output from ⟨hg4.os.trans HHD.out.1, hg4.tape.trans HHD.out.2.1, hg4.output.trans HHD.out.2.2⟩)
              have hsz4 : r + 1 ≤ w4.heap.size := by omega
              obtain ⟨E, hE⟩ : ∃ z, wE.heap.size = z := ⟨_, rfl⟩
              rw [hE] at hs4
              obtain ⟨wK, hwK⟩ : ∃ z, w4.alloc (.cells #[.int .i64 x, .int .i64 y] 94) = z := ⟨_, rfl⟩
              have hbK : Below w4.heap.size w4 wK := by rw [← hwK]; exact bal_alloc (Below.refl _ _)
              have hKO : Own wK E 94 [.int .i64 x, .int .i64 y] := by rw [← hwK]; exact Own.newHG _ _ _ rfl hs4
              have HBK := Lib.hid hbK; have HKO := Lib.hid hKO; have HM4 := Lib.hid hM4; have HO4' := Lib.hid hO4
              have hsK := hbK.size
              clear hrg4 hg4 hM4 hO4 hbK hKO HMT HOE HKS HFR HHD hmne hlft
              go_upto_region 32 with fail
              try rw [hwK]
              have HBW := Lib.hid (show Below w4.heap.size w4 wK.drew from HBK.out.drew)
              have HRW := Lib.hid (show r + 1 ≤ wK.drew.heap.size from by have := HBW.out.size; omega)
              have HOW := Lib.hid (HO4'.out.belowAll HBW.out)
              have HMW := Lib.hid (HM4.out.below HBW.out)
              have HKW := Lib.hid (show Own wK.drew E 94 [.int .i64 x, .int .i64 y] from HKO.out.drew)
              have HKL := Lib.hid (show (ks.map prL).length ≤ 100000 from by rw [List.length_map]; omega)
              have hbS : b ≠ S := by omega
              clear HBK HKO HM4 HO4' hsK hwK hwx hwy
              refine wp_region_inv (fun L ac w' => ∃ s128 s129 s130 s131 s132 s133 s134 s135 s136 s137 s138 s139 s140 s141 : Value, ac = { tmps := #[.slice (some ⟨bl, ol, none⟩) n cap, undef, .pointer none, .pointer (some ⟨S, 0, none⟩), .int .i64 n, u5, u6, u7, u8, u9, u10, u11, u12, u13, u14, u15, .pointer (some ⟨E, 0, none⟩), .slice (some ⟨bl, ol, none⟩) n cap, .slice (some ⟨bl, ol, none⟩) n cap, .slice (some ⟨bp, op, none⟩) n cpp, .map (some b), .agg #[.slice (some ⟨bl, ol, none⟩) n cap, .slice (some ⟨bp, op, none⟩) n cpp, .slice none 0 0, .slice none 0 0, .map (some b)], .pointer (some ⟨S, 0, none⟩), .slice (some ⟨bl, ol, none⟩) n cap, .int .i64 n, .int .i64 n, .int .i64 n, .bool false, u28, u29, u30, u31, u32, u33, u34, u35, u36, u37, u38, u39, u40, u41, u42, u43, u44, u45, u46, u47, u48, u49, u50, u51, u52, u53, u54, u55, u56, u57, u58, u59, u60, u61, u62, .pointer (some ⟨S, 0, none⟩), .pointer (some ⟨S, 0, none⟩), .pointer (some ⟨S, 2, none⟩), .slice ad NM cp, .tuple #[], .pointer (some ⟨S, 0, none⟩), .pointer (some ⟨S, 0, none⟩), .pointer (some ⟨S, 0, none⟩), .pointer (some ⟨S, 2, none⟩), .slice ad NM cp, .slice adC nC capC, .pointer (some ⟨S, 0, none⟩), .pointer (some ⟨S, 2, none⟩), .pointer (some ⟨S, 0, none⟩), .pointer (some ⟨S, 0, none⟩), .pointer (some ⟨S, 2, none⟩), .slice adC nC capC, .int .i64 nC, .int .i64 nC, .bool false, u83, u84, u85, u86, u87, u88, u89, u90, u91, u92, u93, u94, u95, u96, u97, u98, u99, u100, u101, u102, u103, u104, u105, u106, u107, u108, u109, u110, u111, u112, u113, u114, u115, u116, u117, u118, .pointer (some ⟨S, 0, none⟩), .pointer (some ⟨S, 0, none⟩), .pointer (some ⟨S, 4, none⟩), .map (some b), .pointer (some ⟨r, 0, none⟩), .tuple #[.bool true, .agg #[.int .i64 x, .int .i64 y], v], .bool true, .tuple #[.agg #[.int .i64 x, .int .i64 y], v], .agg #[.int .i64 x, .int .i64 y], s128, s129, s130, s131, s132, s133, s134, s135, s136, s137, s138, s139, s140, s141, undef, undef, undef, undef, undef, undef], defers := [] } ∧ EdS S E x y vE L s128 s129 s130 s131 s132 s133 s134 s135 s136 s140 s141 ∧ EdI wK.drew (r + 1) S (.slice (some ⟨bl, ol, none⟩) n cap) (.slice (some ⟨bp, op, none⟩) n cpp) (.slice adC (nC : Nat) capC) (.map (some b)) vE (ks.map prL) vs x y (L 9) (L 10) (L 11) (L 14) w' s137 s138 s139) (by kernel_rfl) (by kernel_rfl) ?_ ?_ ?_
              · exact ⟨_, _, _, _, _, _, _, _, _, _, _, _, _, _, rfl, ⟨(fun e => by cases e), (fun e => by cases e), (fun e => by cases e), (fun e => by cases e), (fun e => by cases e), (fun e => by cases e), (fun e => by cases e), (fun e => by cases e), (fun e => by cases e), (fun e => by cases e), (fun e => by cases e), (fun e => by cases e), (fun e => by cases e)⟩, EdI.start HRW.out HOW.out HMW.out _ _ _⟩
              · rintro L ac w' ⟨s128, s129, s130, s131, s132, s133, s134, s135, s136, s137, s138, s139, s140, s141, rfl, HS, HE⟩ hL
                have HREL := Lib.hid (show EdI wK.drew (r + 1) S (.slice (some ⟨bl, ol, none⟩) n cap) (.slice (some ⟨bp, op, none⟩) n cpp) (.slice adC (nC : Nat) capC) (.map (some b)) vE (ks.map prL) vs x y true true true true w' s137 s138 s139 from by have h := HE; rw [hL 9 (by decide), hL 10 (by decide), hL 11 (by decide), hL 14 (by decide)] at h; exact h)
                clear HS HE hL
                go_wp2_with fail
                have HF := Lib.hid (show ∀ q, q < r → q ≠ S → w'.heap[q]? = wD.heap[q]? from fun q hq hne => (HREL.out.fr rfl q (by omega) hne).trans ((HBW.out.block q (by omega)).trans (HF4.out q hq hne)))
                have HD := Lib.hid (show w'.os = wD.os ∧ w'.tape = wD.tape ∧ w'.output = wD.output from ⟨HREL.out.hd.1.trans (HBW.out.os.trans HD4.out.1), HREL.out.hd.2.1.trans (HBW.out.tape.trans HD4.out.2.1), HREL.out.hd.2.2.1.trans (HBW.out.output.trans HD4.out.2.2)⟩)
                have HRGF := Lib.hid (ranges_same HRG4.out ((HREL.out.fr rfl b (by omega) (by omega)).trans (HBW.out.block b (by omega))) ((HREL.out.fr rfl r (by omega) (by omega)).trans (HBW.out.block r (by omega))))
                have HMF := Lib.hid (show MatL w' (r + 1) (r + 1) s139 ((ks ++ [(x, y)]).map prL) (vs ++ [s137]) from by rw [List.map_append]; exact HREL.out.a11 rfl)
                have hlt2 : wE.rangeLeft b r = cnt := HRG.out.left_eq
                go_roundw
                case rel => exact ⟨_, cnt4, ks ++ [(x, y)], s139, vs ++ [s137], HRGF.out, HKS4.out, by rw [List.length_append, List.length_singleton]; omega, HMF.out, HREL.out.f14 rfl, HF.out, HD.out, HREL.out.size⟩
                case measure => rw [HRGF.out.left_eq, hlt2]; exact hlt
              · rintro i L ac w' ⟨s128, s129, s130, s131, s132, s133, s134, s135, s136, s137, s138, s139, s140, s141, rfl, HS, HE⟩ hi hL hw
                have hi : i < 15 := hi
                have HSS := Lib.hid HS; have HEE := Lib.hid HE; have HWt := Lib.hid hw
                clear HS HE hw
                rcases (show i = 0 ∨ i = 1 ∨ i = 2 ∨ i = 3 ∨ i = 4 ∨ i = 5 ∨ i = 6 ∨ i = 7 ∨ i = 8 ∨ i = 9 ∨ i = 10 ∨ i = 11 ∨ i = 12 ∨ i = 13 ∨ i = 14 by omega) with rfl | rfl | rfl | rfl | rfl | rfl | rfl | rfl | rfl | rfl | rfl | rfl | rfl | rfl | rfl
                · refine' wpOp_step (o := ?oEd0) ?hoEd0 (fun K hK => ?stEd0)
                  case hoEd0 => rfl
                  case stEd0 =>
                    have HK := Lib.hid hK; clear hK
                    go_simp
                    refine HK.out _ _ ⟨_, _, _, _, _, _, _, _, _, _, _, _, _, _, rfl, ?_, ?_⟩
                    · have h := HSS.out; exact ⟨(fun _ => rfl), (fun e => h.p1 e), (fun e => h.p2 e), (fun e => h.p3 e), (fun e => h.p4 e), (fun e => h.p5 e), (fun e => h.p6 e), (fun e => h.p7 e), (fun e => h.p8 e), (fun e => h.p12 e), (fun e => h.p13 e), (fun e => h.q9 e), (fun e => h.q11 e)⟩
                    · exact HEE.out
                · refine' wpOp_step (o := ?oEd1) ?hoEd1 (fun K hK => ?stEd1)
                  case hoEd1 => rfl
                  case stEd1 =>
                    have HK := Lib.hid hK; clear hK
                    go_simp
                    refine HK.out _ _ ⟨_, _, _, _, _, _, _, _, _, _, _, _, _, _, rfl, ?_, ?_⟩
                    · have h := HSS.out; exact ⟨(fun e => h.p0 e), (fun _ => rfl), (fun e => h.p2 e), (fun e => h.p3 e), (fun e => h.p4 e), (fun e => h.p5 e), (fun e => h.p6 e), (fun e => h.p7 e), (fun e => h.p8 e), (fun e => h.p12 e), (fun e => h.p13 e), (fun e => h.q9 e), (fun e => h.q11 e)⟩
                    · exact HEE.out
                · refine' wpOp_step (o := ?oEd2) ?hoEd2 (fun K hK => ?stEd2)
                  case hoEd2 => rfl
                  case stEd2 =>
                    have HK := Lib.hid hK; clear hK
                    obtain rfl := HSS.out.p1 (HWt.out 1 (by kernel_rfl))
                    go_simp
                    refine HK.out _ _ ⟨_, _, _, _, _, _, _, _, _, _, _, _, _, _, rfl, ?_, ?_⟩
                    · have h := HSS.out; exact ⟨(fun e => h.p0 e), (fun e => h.p1 e), (fun _ => rfl), (fun e => h.p3 e), (fun e => h.p4 e), (fun e => h.p5 e), (fun e => h.p6 e), (fun e => h.p7 e), (fun e => h.p8 e), (fun e => h.p12 e), (fun e => h.p13 e), (fun e => h.q9 e), (fun e => h.q11 e)⟩
                    · exact HEE.out
                · refine' wpOp_step (o := ?oEd3) ?hoEd3 (fun K hK => ?stEd3)
                  case hoEd3 => rfl
                  case stEd3 =>
                    have HK := Lib.hid hK; clear hK
                    obtain rfl := HSS.out.p2 (HWt.out 2 (by kernel_rfl))
                    go_simp
                    refine HK.out _ _ ⟨_, _, _, _, _, _, _, _, _, _, _, _, _, _, rfl, ?_, ?_⟩
                    · have h := HSS.out; exact ⟨(fun e => h.p0 e), (fun e => h.p1 e), (fun e => h.p2 e), (fun _ => rfl), (fun e => h.p4 e), (fun e => h.p5 e), (fun e => h.p6 e), (fun e => h.p7 e), (fun e => h.p8 e), (fun e => h.p12 e), (fun e => h.p13 e), (fun e => h.q9 e), (fun e => h.q11 e)⟩
                    · exact HEE.out
                · refine' wpOp_step (o := ?oEd4) ?hoEd4 (fun K hK => ?stEd4)
                  case hoEd4 => rfl
                  case stEd4 =>
                    have HK := Lib.hid hK; clear hK
                    obtain rfl := HSS.out.p3 (HWt.out 3 (by kernel_rfl))
                    have hl14 : L 14 = false := by
                      cases hc : L 14
                      · rfl
                      · have h2 := HSS.out.q11 (HEE.out.o14 hc); rw [hL] at h2; cases h2
                    have y0 := (HEE.out.ho hl14).cell? (i := 3) rfl
                    go_simp
                    refine HK.out _ _ ⟨_, _, _, _, _, _, _, _, _, _, _, _, _, _, rfl, ?_, ?_⟩
                    · have h := HSS.out; exact ⟨(fun e => h.p0 e), (fun e => h.p1 e), (fun e => h.p2 e), (fun e => h.p3 e), (fun _ => rfl), (fun e => h.p5 e), (fun e => h.p6 e), (fun e => h.p7 e), (fun e => h.p8 e), (fun e => h.p12 e), (fun e => h.p13 e), (fun e => h.q9 e), (fun _ => rfl)⟩
                    · exact HEE.out
                · refine' wpOp_step (o := ?oEd5) ?hoEd5 (fun K hK => ?stEd5)
                  case hoEd5 => rfl
                  case stEd5 =>
                    have HK := Lib.hid hK; clear hK
                    go_simp
                    refine HK.out _ _ ⟨_, _, _, _, _, _, _, _, _, _, _, _, _, _, rfl, ?_, ?_⟩
                    · have h := HSS.out; exact ⟨(fun e => h.p0 e), (fun e => h.p1 e), (fun e => h.p2 e), (fun e => h.p3 e), (fun e => h.p4 e), (fun _ => rfl), (fun e => h.p6 e), (fun e => h.p7 e), (fun e => h.p8 e), (fun e => h.p12 e), (fun e => h.p13 e), (fun e => h.q9 e), (fun e => h.q11 e)⟩
                    · exact HEE.out
                · refine' wpOp_step (o := ?oEd6) ?hoEd6 (fun K hK => ?stEd6)
                  case hoEd6 => rfl
                  case stEd6 =>
                    have HK := Lib.hid hK; clear hK
                    obtain rfl := HSS.out.p5 (HWt.out 5 (by kernel_rfl))
                    have h9 : L 9 = false := by
                      cases hc : L 9
                      · rfl
                      · have h2 := (HSS.out.q9 hc).1; rw [hL] at h2; cases h2
                    have h11 : L 11 = false := by
                      cases hc : L 11
                      · rfl
                      · have h2 := HEE.out.o10 (HEE.out.o11 hc); rw [h9] at h2; cases h2
                    have hbw := HEE.out.bel h11
                    have y0 := bcell hbw HKW.out.lt (HKW.out.cell? (i := 0) rfl)
                    clear hbw
                    go_simp
                    refine HK.out _ _ ⟨_, _, _, _, _, _, _, _, _, _, _, _, _, _, rfl, ?_, ?_⟩
                    · have h := HSS.out; exact ⟨(fun e => h.p0 e), (fun e => h.p1 e), (fun e => h.p2 e), (fun e => h.p3 e), (fun e => h.p4 e), (fun e => h.p5 e), (fun _ => rfl), (fun e => h.p7 e), (fun e => h.p8 e), (fun e => h.p12 e), (fun e => h.p13 e), (fun e => ⟨rfl, (h.q9 e).2⟩), (fun e => h.q11 e)⟩
                    · exact HEE.out
                · refine' wpOp_step (o := ?oEd7) ?hoEd7 (fun K hK => ?stEd7)
                  case hoEd7 => rfl
                  case stEd7 =>
                    have HK := Lib.hid hK; clear hK
                    go_simp
                    refine HK.out _ _ ⟨_, _, _, _, _, _, _, _, _, _, _, _, _, _, rfl, ?_, ?_⟩
                    · have h := HSS.out; exact ⟨(fun e => h.p0 e), (fun e => h.p1 e), (fun e => h.p2 e), (fun e => h.p3 e), (fun e => h.p4 e), (fun e => h.p5 e), (fun e => h.p6 e), (fun _ => rfl), (fun e => h.p8 e), (fun e => h.p12 e), (fun e => h.p13 e), (fun e => h.q9 e), (fun e => h.q11 e)⟩
                    · exact HEE.out
                · refine' wpOp_step (o := ?oEd8) ?hoEd8 (fun K hK => ?stEd8)
                  case hoEd8 => rfl
                  case stEd8 =>
                    have HK := Lib.hid hK; clear hK
                    obtain rfl := HSS.out.p7 (HWt.out 7 (by kernel_rfl))
                    have h9 : L 9 = false := by
                      cases hc : L 9
                      · rfl
                      · have h2 := (HSS.out.q9 hc).2; rw [hL] at h2; cases h2
                    have h11 : L 11 = false := by
                      cases hc : L 11
                      · rfl
                      · have h2 := HEE.out.o10 (HEE.out.o11 hc); rw [h9] at h2; cases h2
                    have hbw := HEE.out.bel h11
                    have y0 := bcell hbw HKW.out.lt (HKW.out.cell? (i := 1) rfl)
                    clear hbw
                    go_simp
                    refine HK.out _ _ ⟨_, _, _, _, _, _, _, _, _, _, _, _, _, _, rfl, ?_, ?_⟩
                    · have h := HSS.out; exact ⟨(fun e => h.p0 e), (fun e => h.p1 e), (fun e => h.p2 e), (fun e => h.p3 e), (fun e => h.p4 e), (fun e => h.p5 e), (fun e => h.p6 e), (fun e => h.p7 e), (fun _ => rfl), (fun e => h.p12 e), (fun e => h.p13 e), (fun e => ⟨(h.q9 e).1, rfl⟩), (fun e => h.q11 e)⟩
                    · exact HEE.out
                · refine' wpOp_step (o := ?oEd9) ?hoEd9 (fun K hK => ?stEd9)
                  case hoEd9 => rfl
                  case stEd9 =>
                    have HK := Lib.hid hK; clear hK
                    obtain rfl := HSS.out.p6 (HWt.out 6 (by kernel_rfl))
                    obtain rfl := HSS.out.p8 (HWt.out 8 (by kernel_rfl))
                    have HNX := Lib.hid (EdI.pair HRW.out (show EdI wK.drew (r + 1) S (.slice (some ⟨bl, ol, none⟩) n cap) (.slice (some ⟨bp, op, none⟩) n cpp) (.slice adC (nC : Nat) capC) (.map (some b)) vE (ks.map prL) vs x y false (L 10) (L 11) (L 14) w' s137 s138 s139 from by have h := HEE.out; rw [hL] at h; exact h))
                    go_simp
                    refine HK.out _ _ ⟨_, _, _, _, _, _, _, _, _, _, _, _, _, _, rfl, ?_, ?_⟩
                    · have h := HSS.out; exact ⟨(fun e => h.p0 e), (fun e => h.p1 e), (fun e => h.p2 e), (fun e => h.p3 e), (fun e => h.p4 e), (fun e => h.p5 e), (fun e => h.p6 e), (fun e => h.p7 e), (fun e => h.p8 e), (fun e => h.p12 e), (fun e => h.p13 e), (fun _ => ⟨HWt.out 6 (by kernel_rfl), HWt.out 8 (by kernel_rfl)⟩), (fun e => h.q11 e)⟩
                    · exact HNX.out
                · refine' wpOp_step (o := ?oEd10) ?hoEd10 (fun K hK => ?stEd10)
                  case hoEd10 => rfl
                  case stEd10 =>
                    have HK := Lib.hid hK; clear hK
                    have h9 : L 9 = true := HWt.out 9 (by kernel_rfl)
                    have h11 : L 11 = false := by
                      cases hc : L 11
                      · rfl
                      · have h2 := HEE.out.o11 hc; rw [hL] at h2; cases h2
                    obtain ⟨ad7, cp7, rfl, _⟩ := RowI.shape (HEE.out.a9 h9 h11)
                    have HNX := Lib.hid (show EdI wK.drew (r + 1) S (.slice (some ⟨bl, ol, none⟩) n cap) (.slice (some ⟨bp, op, none⟩) n cpp) (.slice adC (nC : Nat) capC) (.map (some b)) vE (ks.map prL) vs x y (L 9) true (L 11) (L 14) (w'.alloc (.cells #[.slice ad7 [x, y].length cp7] 29)) (.slice ad7 [x, y].length cp7) (.slice (some ⟨w'.heap.size, 0, none⟩) 1 1) s139 from by rw [h9]; exact EdI.lone HRW.out (show EdI wK.drew (r + 1) S (.slice (some ⟨bl, ol, none⟩) n cap) (.slice (some ⟨bp, op, none⟩) n cpp) (.slice adC (nC : Nat) capC) (.map (some b)) vE (ks.map prL) vs x y true false (L 11) (L 14) w' (.slice ad7 [x, y].length cp7) s138 s139 from by have h := HEE.out; rw [hL, h9] at h; exact h))
                    clear h9 h11
                    go_simp
                    refine HK.out _ _ ⟨_, _, _, _, _, _, _, _, _, _, _, _, _, _, rfl, ?_, ?_⟩
                    · have h := HSS.out; exact ⟨(fun e => h.p0 e), (fun e => h.p1 e), (fun e => h.p2 e), (fun e => h.p3 e), (fun e => h.p4 e), (fun e => h.p5 e), (fun e => h.p6 e), (fun e => h.p7 e), (fun e => h.p8 e), (fun e => h.p12 e), (fun e => h.p13 e), (fun e => h.q9 e), (fun e => h.q11 e)⟩
                    · exact HNX.out
                · refine' wpOp_step (o := ?oEd11) ?hoEd11 (fun K hK => ?stEd11)
                  case hoEd11 => rfl
                  case stEd11 =>
                    have HK := Lib.hid hK; clear hK
                    obtain rfl := (HSS.out.p4 (HWt.out 4 (by kernel_rfl))).symm
                    have h10 : L 10 = true := HWt.out 10 (by kernel_rfl)
                    have h9 : L 9 = true := HEE.out.o10 h10
                    obtain ⟨v', wN, hrun, hnx⟩ := EdI.app (by omega) HKL.out (show EdI wK.drew (r + 1) S (.slice (some ⟨bl, ol, none⟩) n cap) (.slice (some ⟨bp, op, none⟩) n cpp) (.slice adC (nC : Nat) capC) (.map (some b)) vE (ks.map prL) vs x y true true false (L 14) w' s137 s138 s139 from by have h := HEE.out; rw [hL, h9, h10] at h; exact h) 26
                    have hrun : (Builtin.append_ #[26, 26] 26 #[vE, s138]).run Tryz.prog w' = .ok v' wN := hrun
                    have HNX := Lib.hid (show EdI wK.drew (r + 1) S (.slice (some ⟨bl, ol, none⟩) n cap) (.slice (some ⟨bp, op, none⟩) n cpp) (.slice adC (nC : Nat) capC) (.map (some b)) vE (ks.map prL) vs x y (L 9) (L 10) true (L 14) wN s137 s138 v' from by rw [h9, h10]; exact hnx)
                    clear hnx h9 h10
                    refine step_runL (by rfl) _ _ (by rfl) vE s138 v' (by rfl) (by rfl) hrun ?_
                    refine HK.out _ _ ⟨_, _, _, _, _, _, _, _, _, _, _, _, _, _, rfl, ?_, ?_⟩
                    · have h := HSS.out; exact ⟨(fun e => h.p0 e), (fun e => h.p1 e), (fun e => h.p2 e), (fun e => h.p3 e), (fun e => h.p4 e), (fun e => h.p5 e), (fun e => h.p6 e), (fun e => h.p7 e), (fun e => h.p8 e), (fun e => h.p12 e), (fun e => h.p13 e), (fun e => h.q9 e), (fun _ => HWt.out 4 (by kernel_rfl))⟩
                    · exact HNX.out
                · refine' wpOp_step (o := ?oEd12) ?hoEd12 (fun K hK => ?stEd12)
                  case hoEd12 => rfl
                  case stEd12 =>
                    have HK := Lib.hid hK; clear hK
                    obtain rfl := HSS.out.p0 (HWt.out 0 (by kernel_rfl))
                    go_simp
                    refine HK.out _ _ ⟨_, _, _, _, _, _, _, _, _, _, _, _, _, _, rfl, ?_, ?_⟩
                    · have h := HSS.out; exact ⟨(fun e => h.p0 e), (fun e => h.p1 e), (fun e => h.p2 e), (fun e => h.p3 e), (fun e => h.p4 e), (fun e => h.p5 e), (fun e => h.p6 e), (fun e => h.p7 e), (fun e => h.p8 e), (fun _ => rfl), (fun e => h.p13 e), (fun e => h.q9 e), (fun e => h.q11 e)⟩
                    · exact HEE.out
                · refine' wpOp_step (o := ?oEd13) ?hoEd13 (fun K hK => ?stEd13)
                  case hoEd13 => rfl
                  case stEd13 =>
                    have HK := Lib.hid hK; clear hK
                    obtain rfl := HSS.out.p12 (HWt.out 12 (by kernel_rfl))
                    go_simp
                    refine HK.out _ _ ⟨_, _, _, _, _, _, _, _, _, _, _, _, _, _, rfl, ?_, ?_⟩
                    · have h := HSS.out; exact ⟨(fun e => h.p0 e), (fun e => h.p1 e), (fun e => h.p2 e), (fun e => h.p3 e), (fun e => h.p4 e), (fun e => h.p5 e), (fun e => h.p6 e), (fun e => h.p7 e), (fun e => h.p8 e), (fun e => h.p12 e), (fun _ => rfl), (fun e => h.q9 e), (fun e => h.q11 e)⟩
                    · exact HEE.out
                · refine' wpOp_step (o := ?oEd14) ?hoEd14 (fun K hK => ?stEd14)
                  case hoEd14 => rfl
                  case stEd14 =>
                    have HK := Lib.hid hK; clear hK
                    obtain rfl := HSS.out.p13 (HWt.out 13 (by kernel_rfl))
                    have h11 : L 11 = true := HWt.out 11 (by kernel_rfl)
                    have h10 := HEE.out.o11 h11; have h9 := HEE.out.o10 h10
                    have hq : EdI wK.drew (r + 1) S (.slice (some ⟨bl, ol, none⟩) n cap) (.slice (some ⟨bp, op, none⟩) n cpp) (.slice adC (nC : Nat) capC) (.map (some b)) vE (ks.map prL) vs x y true true true false w' s137 s138 s139 := by have h := HEE.out; rw [hL, h9, h10, h11] at h; exact h
                    have y0 := (hq.ho rfl).cell? (i := 3) rfl; have z0 := (hq.ho rfl).frozen 3
                    obtain ⟨ad9, cp9, h9e, _⟩ := (hq.a11 rfl).shape
                    obtain ⟨N9, hN9⟩ : ∃ N, (ks.map prL ++ [[x, y]]).length = N := ⟨_, rfl⟩
                    rw [hN9] at h9e
                    subst h9e
                    clear hN9
                    have HNX := Lib.hid (show EdI wK.drew (r + 1) S (.slice (some ⟨bl, ol, none⟩) n cap) (.slice (some ⟨bp, op, none⟩) n cpp) (.slice adC (nC : Nat) capC) (.map (some b)) vE (ks.map prL) vs x y (L 9) (L 10) (L 11) true (w'.setCell ⟨S, 3, none⟩ (.slice ad9 N9 cp9)) s137 s138 (.slice ad9 N9 cp9) from by rw [h9, h10, h11]; exact EdI.store (by omega) hq)
                    clear hq h9 h10 h11
                    go_simp
                    refine HK.out _ _ ⟨_, _, _, _, _, _, _, _, _, _, _, _, _, _, rfl, ?_, ?_⟩
                    · have h := HSS.out; exact ⟨(fun e => h.p0 e), (fun e => h.p1 e), (fun e => h.p2 e), (fun e => h.p3 e), (fun e => h.p4 e), (fun e => h.p5 e), (fun e => h.p6 e), (fun e => h.p7 e), (fun e => h.p8 e), (fun e => h.p12 e), (fun e => h.p13 e), (fun e => h.q9 e), (fun e => h.q11 e)⟩
                    · exact HNX.out
        case pos =>
          have hrz := HRZ4.out.frame HGR.out.size (fun q hq hq2 => HGR.out.block q hq2 (by simp; omega))
          obtain ⟨bx, ox, a, c, rfl, hbx1, hbx2, kx, hxr, _⟩ := hrz k (by rw [HNC.out]; exact hkt)
          obtain ⟨hxne, hxl, hxin⟩ := HCI.out k hkt
          have hSdef := Lib.hid (show sdA L C (k + 1) = sdC (sdA L C k) (corX L (C.getD k [])) k (corX L (C.getD k [])).length from rfl)
          have hXP := Lib.hid (show 0 < (corX L (C.getD k [])).length from by rw [corX_len]; exact hulX_pos (List.length_pos_iff.2 hxne))
          have hXB := Lib.hid (corX_in (L := L) (by rw [HN.out]; exact hl) hxin)
          have hXL := Lib.hid (show (corX L (C.getD k [])).length ≤ 24 from by rw [corX_len]; have := hulX_len L (C.getD k []); omega)
          generalize C.getD k [] = xs at kx hxr hxne hxl hxin hSdef hXL hXP hXB
          have hCOR := corners_c S bp op cpp L a c xs wD HOS.out.lt (by rw [HN.out]; exact HOS.out.cell? (i := 1) rfl) (by omega) (fun j hj => by
            have hne : bp ≠ b := by omega
            have hZ' := HZ.out
            exact ⟨(World.cell?_of_block (w := WZ) (HGR.out.block bp (by omega) (by simp; omega))).trans (bcell HB4.out hbps (HWP.out j hj).1), (World.cell?_of_block (w := WZ) (HGR.out.block bp (by omega) (by simp; omega))).trans (bcell HB4.out hbps (HWP.out j hj).2)⟩) HP.out hxr (by omega) (List.length_pos_iff.2 hxne) hxin (by rw [HN.out]; exact hl)
          have x1 : (0 : Int) ≤ (k : Int) := by omega
          have x2 : (k : Int) < (nC : Int) := by omega
          generalize corX L xs = l at hCOR hSdef hXL hXP hXB
          have HCOR := Lib.hid hCOR
          clear hCOR hrz hxr hxne hxin
          go_wp2_with fail
          refine HCOR.out.mono ?_
          rintro e wE ⟨vl, rfl, hrl, hbE⟩
          obtain ⟨m, hm⟩ : ∃ m, l.length = m := ⟨_, rfl⟩
          have HM := Lib.hid hm
          obtain ⟨gC, cpl, rfl, hgB, hgO⟩ : ∃ g cap, vl = .slice (some ⟨g, 0, none⟩) l.length cap ∧ wD.heap.size ≤ g ∧ Own wE g 3 (ints l) := by
            rcases Own.of_row hrl with ⟨_, h1, _⟩ | ⟨g, cap, h1, h2, _, _, h3⟩
            · have := hXP.out; omega
            · exact ⟨g, cap, h1, h2, h3⟩
          have hbES := hbE.size
          have HGO := Lib.hid hgO
          have HGE := Lib.hid (show WZ.grownBy wE (some b) from ⟨hbE.os.trans HGR.out.os, hbE.tape.trans HGR.out.tape, hbE.output.trans HGR.out.output, Nat.le_trans hgs hbES, fun q hq hne => (hbE.block q (Nat.lt_of_lt_of_le hq hgs)).trans (HGR.out.block q hq hne)⟩)
          have HOE := Lib.hid (HOG.out.below hbE)
          have HAV := Lib.hid (show Av wE b gC from (HOG.out.av hgB).same (hbE.block b (by have := HZ.out; omega)))
          have hgE := hgO.lt
          rw [hm] at hXL hXP hSdef ⊢
          have hXL' := hXL.out; have hXP' := hXP.out
          clear hrl hgO hm HCOR HOG HGR hXL hXP
          go_wp2_with fail
          go_loopw [91] (fun i wr => ∃ (j nn' : Nat) (D' : DataW Unit), j ≤ m ∧ i = .int .i64 j ∧ nn' ≤ 24 * k + j ∧ OwnG wr Z b nn' D' ∧ AgrG D' (sdC (sdA L C k) l k j) ∧ WZ.grownBy wr (some b) ∧ Own wr gC 3 (ints l) ∧ Av wr b gC) (fun i _ => m - (intOf i).toNat)
          case atStart => exact ⟨0, nn, D, Nat.zero_le _, rfl, by omega, HOE.out, HAG.out, HGE.out, HGO.out, HAV.out⟩
          case round =>
            obtain ⟨wF, rfl⟩ : ∃ y : World, y = wr := ⟨_, rfl⟩
            obtain ⟨j, nj, Dj, hj, rfl, hnj, hog, hag, hgr, hgo, hav⟩ := hrel
            have HOG := Lib.hid hog; have HAJ := Lib.hid hag; have HGR := Lib.hid hgr; have HCO := Lib.hid hgo; have HAW := Lib.hid hav
            have hgs2 := hgr.size
            clear hog hag hgr hgo hav HAV HOE HGE HGO
            by_cases hjt : j < m
            case neg =>
              obtain rfl : m = j := by omega
              have HE := Lib.hid (show AgrG Dj (sdA L C (k + 1)) from by rw [hSdef.out]; exact HAJ.out)
              go_wp2_with fail
              go_roundw
              case rel => exact ⟨k + 1, nj, Dj, by omega, by go_num, by omega, HOG.out, HE.out, HGR.out⟩
              case measure => simp [intOf]; omega
            case pos =>
              obtain ⟨q, hq⟩ : ∃ q, (j + 1) % m = q := ⟨_, rfl⟩
              have hqm : q < m := by rw [← hq]; exact Nat.mod_lt _ (by omega)
              have r1 : Int.tmod ((j : Int) + 1) (m : Int) = (q : Int) := by rw [rem_next, hq]
              have r2 : IntKind.i64.wrap ((j : Int) + 1) = (j : Int) + 1 := i64_small (by omega) (by omega)
              have r3 : IntKind.i64.wrap (q : Int) = (q : Int) := i64_small (by omega) (by omega)
              have r4 : ((m : Int) == 0) = false := beq_eq_false_iff_ne.2 (by omega)
              have r5 : ¬ ((m : Int) = 0) := by omega
              have r6 : ¬ (m = 0) := by omega
              have y1 : (0 : Int) ≤ (j : Int) := by omega
              have y2 : (j : Int) < (m : Int) := by omega
              have y3 : (0 : Int) ≤ (q : Int) := by omega
              have y4 : (q : Int) < (m : Int) := by omega
              have c0 := HCO.out.cell? (ints_get (xs := l) (i := j) (by rw [HM.out]; exact hjt))
              have c1 := HCO.out.cell? (ints_get (xs := l) (i := q) (by rw [HM.out]; exact hqm))
              have hA : sidA l j = min (l.getD j 0) (l.getD q 0) := by unfold sidA; rw [HM.out, hq]
              have hB : sidB l j = max (l.getD j 0) (l.getD q 0) := by unfold sidB; rw [HM.out, hq]
              have hXj := hXB.out (l.getD j 0) (by rw [List.getD_eq_getElem?_getD, List.getElem?_eq_getElem (by rw [HM.out]; exact hjt), Option.getD_some]; exact List.getElem_mem _)
              have hXq := hXB.out (l.getD q 0) (by rw [List.getD_eq_getElem?_getD, List.getElem?_eq_getElem (by rw [HM.out]; exact hqm), Option.getD_some]; exact List.getElem_mem _)
              have HSD := Lib.hid (show sdC (sdA L C k) l k (j + 1) = addM (sdC (sdA L C k) l k j) (sidA l j) (sidB l j) k from rfl)
              rw [hA, hB] at HSD
              generalize l.getD j 0 = x at c0 HSD hXj
              generalize l.getD q 0 = y at c1 HSD hXq
              have CPR := Lib.hid (fun w => pair_c x y w)
              obtain ⟨mi, hmi⟩ : ∃ z, min x y = z := ⟨_, rfl⟩
              obtain ⟨ma, hma⟩ : ∃ z, max x y = z := ⟨_, rfl⟩
              have hmb : (0 ≤ mi ∧ mi ≤ 1000000) ∧ (0 ≤ ma ∧ ma ≤ 1000000) := by omega
              rw [hmi, hma] at HSD CPR
              clear hmi hma hXj hXq hA hB hq
              go_wp2_with fail
              refine (CPR.out _).mono ?_
              rintro e wG ⟨rfl, hbG⟩
              clear c0 c1 CPR r1 r2 r3 r4 r5 r6
              have hbK : Below wG.heap.size wG (wG.alloc (.cells #[.int .i64 mi, .int .i64 ma] 94)) := bal_alloc (Below.refl _ _)
              have hKO : Own (wG.alloc (.cells #[.int .i64 mi, .int .i64 ma] 94)) wG.heap.size 94 [.int .i64 mi, .int .i64 ma] := Own.new _ _ _
              obtain ⟨E, hE⟩ : ∃ z, wG.heap.size = z := ⟨_, rfl⟩
              obtain ⟨wK, hwK⟩ : ∃ z, wG.alloc (.cells #[.int .i64 mi, .int .i64 ma] 94) = z := ⟨_, rfl⟩
              rw [hwK] at hbK hKO
              rw [hE] at hKO
              go_upto_region 26 with fail
              try rw [hE]
              try rw [hwK]
              have hbF : Below wF.heap.size wF wK.drew := (ball hbG hbK).drew
              have hFE : wF.heap.size ≤ E := by rw [← hE]; exact hbG.size
              have hgC : gC < wF.heap.size := HCO.out.lt
              have hZF : Z ≤ wF.heap.size := by have := HZ.out; omega
              have HGK := Lib.hid (show WZ.grownBy wK.drew (some b) from ⟨hbF.os.trans HGR.out.os, hbF.tape.trans HGR.out.tape, hbF.output.trans HGR.out.output, Nat.le_trans hgs2 hbF.size, fun q hq hne => (hbF.block q (Nat.lt_of_lt_of_le hq hgs2)).trans (HGR.out.block q hq hne)⟩)
              have hbls2 : b < wF.heap.size := by omega
              obtain ⟨v0, st, zs, es, clock, es1, clock1, hok, hat⟩ := enP_ex (gC := gC) (kk := (k : Int)) (mi := mi) (ma := ma) (HOG.out.below hbF) (by omega) (wf_nat (by omega) (by omega)) (wf_nat (by omega) (by omega)) (HAW.out.same (hbF.block b hbls2)) (Nat.lt_of_lt_of_le hgC hbF.size) (wf_nat (by omega) (by omega)) (Nat.le_trans hZF hbF.size)
              have hzs : zs = sdC (sdA L C k) l k j mi ma := agrG_at HAJ.out (wf_nat (by omega) (by omega)) (wf_nat (by omega) (by omega)) hok.ho hat
              have hMapD : Maps.IsMap Dj := HOG.out.isMap
              have HAG2 := Lib.hid (show AgrG (Dj.put (kP mi ma) (.slice (Go.ChangeShapes.lits .i64 (zs ++ [(k : Int)])) [])) (sdC (sdA L C k) l k (j + 1)) from by rw [HSD.out, hzs]; exact agrG_put HAJ.out hMapD (wf_nat (by omega) (by omega)) (wf_nat (by omega) (by omega)))
              have hOSK : Own wK.drew S 56 _ := HO4.out.grown HGK.out (by simp; omega)
              have hOEK : Own wK.drew E 94 [.int .i64 mi, .int .i64 ma] := hKO.drew
              have hv0 : ∀ q, v0.ownBlock = some q → Z ≤ q ∧ q < wK.drew.heap.size := fun q hq => hok.ho.1.lt q hq
              have HSK := Lib.hid (show S < wK.drew.heap.size ∧ S ≠ b ∧ v0.ownBlock ≠ some S from ⟨hOSK.lt, by omega, fun e => by have := (hv0 S e).1; omega⟩)
              have HEK := Lib.hid (show E < wK.drew.heap.size ∧ E ≠ b ∧ v0.ownBlock ≠ some E from ⟨hOEK.lt, by omega, fun e => (row_ne_ty hok.ho.1 hOEK (by decide)) e⟩)
              have HCS := Lib.hid (hOSK.cell? (i := 4) rfl)
              have HC0 := Lib.hid (hOEK.cell? (i := 0) rfl)
              have HC1 := Lib.hid (hOEK.cell? (i := 1) rfl)
              have HGC := Lib.hid (show gC < wK.drew.heap.size ∧ gC ≠ b ∧ v0.ownBlock ≠ some gC ∧ Own wK.drew gC 3 (ints l) from ⟨Nat.lt_of_lt_of_le hgC hbF.size, by omega, fun e => by
                rcases hok.hsrc with h | ⟨x, hx, h⟩
                · have h : v0.ownBlock = none := h
                  rw [h] at e; cases e
                · have h : x.val = v0 := h
                  exact hok.av _ _ hok.hb x hx (by rw [h]; exact e), HCO.out.belowAll hbF⟩)
              have HV0 := Lib.hid hv0
              have HOK := Lib.hid hok
              clear hok hat hzs hMapD hOSK hOEK hKO hv0 HSD HAJ HOG HGR HCO HAW hbF hbG hbK hE hwK hmb hgs2 y1 y2 y3 y4
              refine wp_region_inv (fun L ac w' => ∃ s106 s107 s108 s109 s110 s111 s112 s113 s114 s115 s116 : Value, ac = { tmps := #[.slice (some ⟨bl, ol, none⟩) n cap, undef, .pointer none, .pointer (some ⟨S, 0, none⟩), .int .i64 n, u5, u6, u7, u8, u9, .int .i64 k, .slice a xs.length c, .slice (some ⟨gC, 0, none⟩) m cpl, .int .i64 j, .int .i64 x, .pointer (some ⟨E, 0, none⟩), undef, .slice (some ⟨bl, ol, none⟩) n cap, .slice (some ⟨bl, ol, none⟩) n cap, .slice (some ⟨bp, op, none⟩) n cpp, .map (some b), .agg #[.slice (some ⟨bl, ol, none⟩) n cap, .slice (some ⟨bp, op, none⟩) n cpp, .slice none 0 0, .slice none 0 0, .map (some b)], .pointer (some ⟨S, 0, none⟩), .slice (some ⟨bl, ol, none⟩) n cap, .int .i64 n, .int .i64 n, .int .i64 n, .bool false, u28, u29, u30, u31, u32, u33, u34, u35, u36, u37, u38, u39, u40, u41, u42, u43, u44, u45, u46, u47, u48, u49, u50, u51, u52, u53, u54, u55, u56, u57, u58, u59, u60, u61, u62, .pointer (some ⟨S, 0, none⟩), .pointer (some ⟨S, 0, none⟩), .pointer (some ⟨S, 2, none⟩), .slice ad NM cp, .tuple #[], .pointer (some ⟨S, 0, none⟩), .pointer (some ⟨S, 0, none⟩), .pointer (some ⟨S, 0, none⟩), .pointer (some ⟨S, 2, none⟩), .slice ad NM cp, .slice (some ⟨bx, ox, none⟩) nC capC, .pointer (some ⟨S, 0, none⟩), .pointer (some ⟨S, 2, none⟩), .pointer (some ⟨S, 0, none⟩), .pointer (some ⟨S, 0, none⟩), .pointer (some ⟨S, 2, none⟩), .slice (some ⟨bx, ox, none⟩) nC capC, .int .i64 nC, .int .i64 k, .bool true, .int .i64 k, .pointer (some ⟨bx, ox + k, none⟩), .slice a xs.length c, .pointer (some ⟨S, 0, none⟩), .slice a xs.length c, .slice (some ⟨gC, 0, none⟩) m cpl, .slice (some ⟨gC, 0, none⟩) m cpl, .int .i64 m, .int .i64 j, .bool true, .int .i64 j, .pointer (some ⟨gC, j, none⟩), .int .i64 x, .int .i64 x, .slice (some ⟨gC, 0, none⟩) m cpl, .int .i64 j, .int .i64 (j + 1), .slice (some ⟨gC, 0, none⟩) m cpl, .int .i64 m, .int .i64 q, .pointer (some ⟨gC, q, none⟩), .int .i64 y, .agg #[.int .i64 mi, .int .i64 ma], s106, s107, s108, s109, s110, s111, s112, s113, s114, s115, s116, u117, u118, undef, undef, undef, undef, undef, undef, undef, undef, undef, undef, undef, undef, undef, undef, undef, undef, undef, undef, undef, undef, undef, undef, undef, undef, undef, undef, undef, undef, undef], defers := [] } ∧ EnS S b k mi ma v0 st L s106 s107 s108 s109 s110 s111 s112 s116 ∧ EnI (EnP.mk wK.drew Z b nj gC Dj (.agg #[.int .i64 mi, .int .i64 ma]) (kP mi ma) v0 st zs es clock es1 clock1 (k : Int)) (L 6) (L 7) (L 9) (L 11) w' s113 s114 s115) (by kernel_rfl) (by kernel_rfl) ?_ ?_ ?_
              · exact ⟨_, _, _, _, _, _, _, _, _, _, _, rfl, ⟨(fun e => by cases e), (fun e => by cases e), (fun e => by cases e), (fun e => by cases e), (fun e => by cases e), (fun e => by cases e), (fun e => by cases e), (fun e => by cases e)⟩, EnI.start HOK.out _ _ _⟩
              · rintro L ac w' ⟨s106, s107, s108, s109, s110, s111, s112, s113, s114, s115, s116, rfl, HS, HE⟩ hL
                have HREL := Lib.hid (show EnI (EnP.mk wK.drew Z b nj gC Dj (.agg #[.int .i64 mi, .int .i64 ma]) (kP mi ma) v0 st zs es clock es1 clock1 (k : Int)) true true true true w' s113 s114 s115 from by have h := HE; rw [hL 6 (by decide), hL 7 (by decide), hL 9 (by decide), hL 11 (by decide)] at h; exact h)
                clear HS HE hL
                go_wp2_with fail
                have HF := Lib.hid (HREL.out.f11 rfl)
                have HFR := Lib.hid (show WZ.grownBy w' (some b) from ⟨HREL.out.os.trans HGK.out.os, HREL.out.tape.trans HGK.out.tape, HREL.out.output.trans HGK.out.output, Nat.le_trans HGK.out.size HREL.out.size, fun q hq hne => (HREL.out.fr q (Nat.lt_of_lt_of_le hq HGK.out.size) (fun e => hne (by rw [e])) (fun e => by have := (HV0.out q e).1; have := HZ.out; omega)).trans (HGK.out.block q hq hne)⟩)
                have HCF := Lib.hid (HGC.out.2.2.2.of_block (HREL.out.fr gC HGC.out.1 HGC.out.2.1 HGC.out.2.2.1))
                go_roundw
                case rel => exact ⟨j + 1, nj + 1, _, by omega, by go_num, by omega, HF.out.1, HAG2.out, HFR.out, HCF.out, HF.out.2⟩
                case measure => simp [intOf]; omega
              · rintro i L ac w' ⟨s106, s107, s108, s109, s110, s111, s112, s113, s114, s115, s116, rfl, HS, HE⟩ hi hL hw
                have hi : i < 12 := hi
                have HSS := Lib.hid HS; have HEE := Lib.hid HE; have HWt := Lib.hid hw
                clear HS HE hw
                rcases (show i = 0 ∨ i = 1 ∨ i = 2 ∨ i = 3 ∨ i = 4 ∨ i = 5 ∨ i = 6 ∨ i = 7 ∨ i = 8 ∨ i = 9 ∨ i = 10 ∨ i = 11 by omega) with rfl | rfl | rfl | rfl | rfl | rfl | rfl | rfl | rfl | rfl | rfl | rfl
                · refine' wpOp_step (o := ?oEn0) ?hoEn0 (fun K hK => ?stEn0)
                  case hoEn0 => rfl
                  case stEn0 =>
                    have HK := Lib.hid hK; clear hK
                    go_simp
                    refine HK.out _ _ ⟨_, _, _, _, _, _, _, _, _, _, _, rfl, ?_, ?_⟩
                    · have h := HSS.out; exact ⟨(fun _ => rfl), (fun e => h.p1 e), (fun e => h.p2 e), (fun e => h.p3 e), (fun e => h.p4 e), (fun e => h.p5 e), (fun e => h.p8 e), (fun e => h.p10 e)⟩
                    · exact HEE.out
                · refine' wpOp_step (o := ?oEn1) ?hoEn1 (fun K hK => ?stEn1)
                  case hoEn1 => rfl
                  case stEn1 =>
                    have HK := Lib.hid hK; clear hK
                    obtain rfl := HSS.out.p0 (HWt.out 0 (by kernel_rfl))
                    go_simp
                    refine HK.out _ _ ⟨_, _, _, _, _, _, _, _, _, _, _, rfl, ?_, ?_⟩
                    · have h := HSS.out; exact ⟨(fun e => h.p0 e), (fun _ => rfl), (fun e => h.p2 e), (fun e => h.p3 e), (fun e => h.p4 e), (fun e => h.p5 e), (fun e => h.p8 e), (fun e => h.p10 e)⟩
                    · exact HEE.out
                · refine' wpOp_step (o := ?oEn2) ?hoEn2 (fun K hK => ?stEn2)
                  case hoEn2 => rfl
                  case stEn2 =>
                    have HK := Lib.hid hK; clear hK
                    obtain rfl := HSS.out.p1 (HWt.out 1 (by kernel_rfl))
                    go_simp
                    refine HK.out _ _ ⟨_, _, _, _, _, _, _, _, _, _, _, rfl, ?_, ?_⟩
                    · have h := HSS.out; exact ⟨(fun e => h.p0 e), (fun e => h.p1 e), (fun _ => rfl), (fun e => h.p3 e), (fun e => h.p4 e), (fun e => h.p5 e), (fun e => h.p8 e), (fun e => h.p10 e)⟩
                    · exact HEE.out
                · refine' wpOp_step (o := ?oEn3) ?hoEn3 (fun K hK => ?stEn3)
                  case hoEn3 => rfl
                  case stEn3 =>
                    have HK := Lib.hid hK; clear hK
                    obtain rfl := HSS.out.p2 (HWt.out 2 (by kernel_rfl))
                    have y0 := HEE.out.cell (q := S) (i := 4) HSK.out.1 HSK.out.2.1 HSK.out.2.2 HCS.out
                    go_simp
                    refine HK.out _ _ ⟨_, _, _, _, _, _, _, _, _, _, _, rfl, ?_, ?_⟩
                    · have h := HSS.out; exact ⟨(fun e => h.p0 e), (fun e => h.p1 e), (fun e => h.p2 e), (fun _ => rfl), (fun e => h.p4 e), (fun e => h.p5 e), (fun e => h.p8 e), (fun e => h.p10 e)⟩
                    · exact HEE.out
                · refine' wpOp_step (o := ?oEn4) ?hoEn4 (fun K hK => ?stEn4)
                  case hoEn4 => rfl
                  case stEn4 =>
                    have HK := Lib.hid hK; clear hK
                    have y0 := HEE.out.cell (q := E) (i := 0) HEK.out.1 HEK.out.2.1 HEK.out.2.2 HC0.out
                    have y1 := HEE.out.cell (q := E) (i := 1) HEK.out.1 HEK.out.2.1 HEK.out.2.2 HC1.out
                    go_simp
                    refine HK.out _ _ ⟨_, _, _, _, _, _, _, _, _, _, _, rfl, ?_, ?_⟩
                    · have h := HSS.out; exact ⟨(fun e => h.p0 e), (fun e => h.p1 e), (fun e => h.p2 e), (fun e => h.p3 e), (fun _ => rfl), (fun e => h.p5 e), (fun e => h.p8 e), (fun e => h.p10 e)⟩
                    · exact HEE.out
                · refine' wpOp_step (o := ?oEn5) ?hoEn5 (fun K hK => ?stEn5)
                  case hoEn5 => rfl
                  case stEn5 =>
                    have HK := Lib.hid hK; clear hK
                    go_simp
                    refine HK.out _ _ ⟨_, _, _, _, _, _, _, _, _, _, _, rfl, ?_, ?_⟩
                    · have h := HSS.out; exact ⟨(fun e => h.p0 e), (fun e => h.p1 e), (fun e => h.p2 e), (fun e => h.p3 e), (fun e => h.p4 e), (fun _ => rfl), (fun e => h.p8 e), (fun e => h.p10 e)⟩
                    · exact HEE.out
                · refine' wpOp_step (o := ?oEn6) ?hoEn6 (fun K hK => ?stEn6)
                  case hoEn6 => rfl
                  case stEn6 =>
                    have HK := Lib.hid hK; clear hK
                    obtain rfl := HSS.out.p5 (HWt.out 5 (by kernel_rfl))
                    have HNX := Lib.hid (EnI.one HOK.out (show EnI (EnP.mk wK.drew Z b nj gC Dj (.agg #[.int .i64 mi, .int .i64 ma]) (kP mi ma) v0 st zs es clock es1 clock1 (k : Int)) false (L 7) (L 9) (L 11) w' s113 s114 s115 from by have h := HEE.out; rw [hL] at h; exact h))
                    go_simp
                    refine HK.out _ _ ⟨_, _, _, _, _, _, _, _, _, _, _, rfl, ?_, ?_⟩
                    · have h := HSS.out; exact ⟨(fun e => h.p0 e), (fun e => h.p1 e), (fun e => h.p2 e), (fun e => h.p3 e), (fun e => h.p4 e), (fun e => h.p5 e), (fun e => h.p8 e), (fun e => h.p10 e)⟩
                    · exact HNX.out
                · refine' wpOp_step (o := ?oEn7) ?hoEn7 (fun K hK => ?stEn7)
                  case hoEn7 => rfl
                  case stEn7 =>
                    have HK := Lib.hid hK; clear hK
                    obtain rfl := HSS.out.p3 (HWt.out 3 (by kernel_rfl))
                    obtain rfl := HSS.out.p4 (HWt.out 4 (by kernel_rfl))
                    obtain ⟨hbb, hnx⟩ := EnI.entry HOK.out (show EnI (EnP.mk wK.drew Z b nj gC Dj (.agg #[.int .i64 mi, .int .i64 ma]) (kP mi ma) v0 st zs es clock es1 clock1 (k : Int)) (L 6) false (L 9) (L 11) w' s113 s114 s115 from by have h := HEE.out; rw [hL] at h; exact h)
                    have hrun : (Instr.mapEntry 54 (.map (some b)) (.agg #[.int .i64 mi, .int .i64 ma])).run Tryz.prog w' = .ok (.tuple #[v0, .int .i64 (st : Int)]) (Go.ChangeMaps.setBlock w' b (.map es1 clock1)) := HOK.out.hE w' hbb
                    have HNX := Lib.hid hnx; clear hnx hbb
                    go_simp
                    refine HK.out _ _ ⟨_, _, _, _, _, _, _, _, _, _, _, rfl, ?_, ?_⟩
                    · have h := HSS.out; exact ⟨(fun e => h.p0 e), (fun e => h.p1 e), (fun e => h.p2 e), (fun e => h.p3 e), (fun e => h.p4 e), (fun e => h.p5 e), (fun e => h.p8 e), (fun e => h.p10 e)⟩
                    · exact HNX.out
                · refine' wpOp_step (o := ?oEn8) ?hoEn8 (fun K hK => ?stEn8)
                  case hoEn8 => rfl
                  case stEn8 =>
                    have HK := Lib.hid hK; clear hK
                    obtain rfl := HEE.out.e7 (HWt.out 7 (by kernel_rfl))
                    go_simp
                    refine HK.out _ _ ⟨_, _, _, _, _, _, _, _, _, _, _, rfl, ?_, ?_⟩
                    · have h := HSS.out; exact ⟨(fun e => h.p0 e), (fun e => h.p1 e), (fun e => h.p2 e), (fun e => h.p3 e), (fun e => h.p4 e), (fun e => h.p5 e), (fun _ => rfl), (fun e => h.p10 e)⟩
                    · exact HEE.out
                · refine' wpOp_step (o := ?oEn9) ?hoEn9 (fun K hK => ?stEn9)
                  case hoEn9 => rfl
                  case stEn9 =>
                    have HK := Lib.hid hK; clear hK
                    obtain rfl := (HSS.out.p8 (HWt.out 8 (by kernel_rfl))).symm
                    have hq : EnI (EnP.mk wK.drew Z b nj gC Dj (.agg #[.int .i64 mi, .int .i64 ma]) (kP mi ma) v0 st zs es clock es1 clock1 (k : Int)) true true false false w' s113 s114 s115 := by
                      have h := HEE.out
                      have h7 := HWt.out 6 (by kernel_rfl)
                      rw [hL, h7] at h
                      have h11 : L 11 = false := by cases hc : L 11; rfl; have := h.o11 hc; cases this
                      rw [h11] at h
                      have h72 : L 7 = true := HWt.out 7 (by kernel_rfl)
                      rw [h72] at h
                      exact h
                    obtain ⟨v', wN, hrun, hnx⟩ := EnI.app HOK.out hq 29
                    have hrun : (Builtin.append_ #[29, 29] 29 #[v0, s113]).run Tryz.prog w' = .ok v' wN := hrun
                    have HNX := Lib.hid (show EnI (EnP.mk wK.drew Z b nj gC Dj (.agg #[.int .i64 mi, .int .i64 ma]) (kP mi ma) v0 st zs es clock es1 clock1 (k : Int)) (L 6) (L 7) true (L 11) wN s113 s114 v' from by
                      have h7 := HWt.out 6 (by kernel_rfl)
                      have h72 : L 7 = true := HWt.out 7 (by kernel_rfl)
                      have h11 : L 11 = false := by
                        cases hc : L 11
                        · rfl
                        · have := HEE.out.o11 hc; rw [hL] at this; cases this
                      rw [h7, h72, h11]; exact hnx)
                    clear hnx hq
                    refine step_runA (by rfl) _ _ (by rfl) v0 s113 v' (by rfl) (by rfl) hrun ?_
                    refine HK.out _ _ ⟨_, _, _, _, _, _, _, _, _, _, _, rfl, ?_, ?_⟩
                    · have h := HSS.out; exact ⟨(fun e => h.p0 e), (fun e => h.p1 e), (fun e => h.p2 e), (fun e => h.p3 e), (fun e => h.p4 e), (fun e => h.p5 e), (fun e => h.p8 e), (fun e => h.p10 e)⟩
                    · exact HNX.out
                · refine' wpOp_step (o := ?oEn10) ?hoEn10 (fun K hK => ?stEn10)
                  case hoEn10 => rfl
                  case stEn10 =>
                    have HK := Lib.hid hK; clear hK
                    obtain rfl := HEE.out.e7 (HWt.out 7 (by kernel_rfl))
                    go_simp
                    refine HK.out _ _ ⟨_, _, _, _, _, _, _, _, _, _, _, rfl, ?_, ?_⟩
                    · have h := HSS.out; exact ⟨(fun e => h.p0 e), (fun e => h.p1 e), (fun e => h.p2 e), (fun e => h.p3 e), (fun e => h.p4 e), (fun e => h.p5 e), (fun e => h.p8 e), (fun _ => rfl)⟩
                    · exact HEE.out
                · refine' wpOp_step (o := ?oEn11) ?hoEn11 (fun K hK => ?stEn11)
                  case hoEn11 => rfl
                  case stEn11 =>
                    have HK := Lib.hid hK; clear hK
                    obtain rfl := HSS.out.p3 (HWt.out 3 (by kernel_rfl))
                    obtain rfl := HSS.out.p10 (HWt.out 10 (by kernel_rfl))
                    have h9 : L 9 = true := HWt.out 9 (by kernel_rfl)
                    obtain ⟨h72, h62⟩ := HEE.out.o97 h9
                    obtain ⟨wN, hrun, hnx⟩ := EnI.store HOK.out (show EnI (EnP.mk wK.drew Z b nj gC Dj (.agg #[.int .i64 mi, .int .i64 ma]) (kP mi ma) v0 st zs es clock es1 clock1 (k : Int)) true true true false w' s113 s114 s115 from by have h := HEE.out; rw [hL, h9, h72, h62] at h; exact h)
                    have hrun : (Instr.entryStore 54 (.map (some b)) (.int .i64 (st : Int)) s115).run Tryz.prog w' = .ok () wN := hrun
                    have HNX := Lib.hid (show EnI (EnP.mk wK.drew Z b nj gC Dj (.agg #[.int .i64 mi, .int .i64 ma]) (kP mi ma) v0 st zs es clock es1 clock1 (k : Int)) (L 6) (L 7) (L 9) true wN s113 s114 s115 from by rw [h9, h72, h62]; exact hnx)
                    clear hnx h9 h72 h62
                    go_simp
                    refine HK.out _ _ ⟨_, _, _, _, _, _, _, _, _, _, _, rfl, ?_, ?_⟩
                    · have h := HSS.out; exact ⟨(fun e => h.p0 e), (fun e => h.p1 e), (fun e => h.p2 e), (fun e => h.p3 e), (fun e => h.p4 e), (fun e => h.p5 e), (fun e => h.p8 e), (fun e => h.p10 e)⟩
                    · exact HNX.out
    case pos =>
      have HC1 := Lib.hid (show cel1 L (x + 1) = cel1 L x ++ cel2 L x n from by rw [← HN.out]; rfl)
      have w1' : IntKind.i64.wrap ((x : Int) + 1) = ((x + 1 : Nat) : Int) := by rw [i64_small (by omega) (by omega)]; omega
      have HI1 := Lib.hid (show InvC W S b (.slice (some ⟨bl, ol, none⟩) n cap) (.slice (some ⟨bp, op, none⟩) n cpp) (cel1 L x ++ cel2 L x (x + 1)) wA from by rw [cel2_low L x (x + 1) (Nat.le_refl _), List.append_nil]; exact HIV.out)
      go_wp2_with fail
      go_loopw [6] (fun i wr => ∃ k : Nat, x + 1 ≤ k ∧ k ≤ n ∧ i = .int .i64 k ∧ InvC W S b (.slice (some ⟨bl, ol, none⟩) n cap) (.slice (some ⟨bp, op, none⟩) n cpp) (cel1 L x ++ cel2 L x k) wr) (fun i _ => n - (intOf i).toNat)
      case atStart => exact ⟨x + 1, Nat.le_refl _, hlt, by first | rfl | simp, HI1.out⟩
      case round =>
        obtain ⟨wB, rfl⟩ : ∃ y : World, y = wr := ⟨_, rfl⟩
        obtain ⟨y, hy0, hy, rfl, hinv⟩ := hrel
        have HIY := Lib.hid hinv; clear hinv
        by_cases hyt : y < n
        case neg =>
          obtain rfl : y = n := by omega
          have HE := Lib.hid (show InvC W S b (.slice (some ⟨bl, ol, none⟩) y cap) (.slice (some ⟨bp, op, none⟩) y cpp) (cel1 L (x + 1)) wB from by rw [HC1.out]; exact HIY.out)
          go_wp2_with fail
          go_roundw
          case rel => exact ⟨x + 1, by omega, by go_num, HE.out⟩
          case measure => simp [intOf]; omega
        case pos =>
          have HC2 := Lib.hid (show cel2 L x (y + 1) = cel2 L x y ++ cel3 L x y n from by rw [← HN.out]; show (if x < y then _ else _) = _; rw [if_pos (by omega)])
          have HI2 := Lib.hid (show InvC W S b (.slice (some ⟨bl, ol, none⟩) n cap) (.slice (some ⟨bp, op, none⟩) n cpp) (cel1 L x ++ cel2 L x y ++ cel3 L x y (y + 1)) wB from by rw [cel3_low L x y (y + 1) (Nat.le_refl _), List.append_nil]; exact HIY.out)
          have w2' : IntKind.i64.wrap ((y : Int) + 1) = ((y + 1 : Nat) : Int) := by rw [i64_small (by omega) (by omega)]; omega
          go_wp2_with fail
          go_loopw [7] (fun i wr => ∃ k : Nat, y + 1 ≤ k ∧ k ≤ n ∧ i = .int .i64 k ∧ InvC W S b (.slice (some ⟨bl, ol, none⟩) n cap) (.slice (some ⟨bp, op, none⟩) n cpp) (cel1 L x ++ cel2 L x y ++ cel3 L x y k) wr) (fun i _ => n - (intOf i).toNat)
          case atStart => exact ⟨y + 1, Nat.le_refl _, hyt, by first | rfl | simp, HI2.out⟩
          case round =>
            obtain ⟨wC, rfl⟩ : ∃ y : World, y = wr := ⟨_, rfl⟩
            obtain ⟨z, hz0, hz, rfl, hinv⟩ := hrel
            have HIZ := Lib.hid hinv; clear hinv
            by_cases hzt : z < n
            case neg =>
              obtain rfl : z = n := by omega
              have HE := Lib.hid (show InvC W S b (.slice (some ⟨bl, ol, none⟩) z cap) (.slice (some ⟨bp, op, none⟩) z cpp) (cel1 L x ++ cel2 L x (y + 1)) wC from by rw [HC2.out, ← List.append_assoc]; exact HIZ.out)
              go_wp2_with fail
              go_roundw
              case rel => exact ⟨y + 1, by omega, by omega, by go_num, HE.out⟩
              case measure => simp [intOf]; omega
            case pos =>
              have CC := Lib.hid (HCALL.out _ x y z wC HIZ.out (by omega) (by omega) hzt)
              have HLE := Lib.hid (show (cel1 L x ++ cel2 L x y ++ cel3 L x y z).length ≤ 2000 from by
                have h1 := cel1_len L (by rw [HN.out]; exact hl) x
                have h2 := cel2_len L (by rw [HN.out]; exact hl) x y
                have h3 := cel3_len L x y z
                rw [List.length_append, List.length_append]
                omega)
              have HC3 := Lib.hid (show cel3 L x y (z + 1) = if celB L x y z = true then cel3 L x y z ++ [celL L x y z] else cel3 L x y z from by
                show (if y < z ∧ celB L x y z = true then _ else _) = _
                by_cases e : celB L x y z = true
                · rw [if_pos ⟨by omega, e⟩, if_pos e]
                · rw [if_neg (fun g => e g.2), if_neg e])
              generalize celB L x y z = CB at CC HC3
              generalize celL L x y z = CX at CC HC3
              go_wp2_with fail
              refine CC.out.mono ?_
              rintro e wD ⟨vc, rfl, hrow, hbD⟩
              cases CB
              case false =>
                have HE := Lib.hid (show InvC W S b (.slice (some ⟨bl, ol, none⟩) n cap) (.slice (some ⟨bp, op, none⟩) n cpp) (cel1 L x ++ cel2 L x y ++ cel3 L x y (z + 1)) wD from by rw [HC3.out, if_neg (by simp)]; exact HIZ.out.below hbD hSW)
                clear hrow
                go_wp2_with fail
                go_roundw
                case rel => exact ⟨z + 1, by omega, by omega, by go_num, HE.out⟩
                case measure => simp [intOf]; omega
              case true =>
                have HID := Lib.hid (HIZ.out.below hbD hSW)
                have HC4 := Lib.hid (show cel3 L x y (z + 1) = cel3 L x y z ++ [CX] from by rw [HC3.out, if_pos rfl])
                rw [if_pos rfl] at hrow
                obtain ⟨v, vs, hM, hO⟩ := HID.out.ex
                have hsz := HID.out.size
                have hszC := HIZ.out.size
                generalize hMM : cel1 L x ++ cel2 L x y ++ cel3 L x y z = M at hM HID HLE
                have HMM := Lib.hid hMM
                clear hMM HIZ HC3 CC
                obtain ⟨ad, cp, rfl, _⟩ := hM.shape
                obtain ⟨NM, hNM⟩ : ∃ k, M.length = k := ⟨_, rfl⟩
                have hcl := (CellO.of_row hrow).mono (B' := S + 1) hszC
                obtain ⟨adc, cpc, rfl, _⟩ := RowI.shape hrow
                have HONE := Lib.hid (MatL.one wD (S + 1) (S + 1) _ CX hcl hsz)
                have HMA := Lib.hid (hM.below ((Below.refl wD.heap.size wD).alloc (Nat.le_refl _) (.cells #[.slice adc CX.length cpc] 29)))
                have HLE' := HLE.out
                rw [hNM] at HMA hO HLE'
                have HNM := Lib.hid hNM
                have k2 := hO.cell? (i := 2) rfl
                have HOD := Lib.hid (hO.alloc (.cells #[.slice adc CX.length cpc] 29))
                obtain ⟨CXL, hCXL⟩ : ∃ k, CX.length = k := ⟨_, rfl⟩
                rw [hCXL] at HONE HMA HOD
                have HB0 := Lib.hid (HID.out.bel.trans ((bal_alloc (o := .cells #[.slice adc CXL cpc] 29) (Below.refl wD.heap.size wD)).mono (show S ≤ wD.heap.size by omega)))
                have hS9 : S + 1 ≤ (wD.alloc (.cells #[.slice adc CXL cpc] 29)).heap.size := by simp; omega
                rw [hCXL]
                clear hM hO hNM hrow hcl hCXL
                go_wp2_with (at_builtin; refine wpList_appL rfl _ _ rfl (S + 1) (S + 1) (S + 1) (.slice ad NM cp) _ M [CX] vs _ (NM + 1) (by rw [HNM.out]; rfl) rfl rfl (by exact HMA.out) HONE.out (by rw [HNM.out]; omega) (by simp) hS9 ?_; intro ad9 cap9 w9 hml9 hbm9; have hO9 := HOD.out.below hbm9 (Nat.lt_succ_self S); have k9 := hO9.cell? (i := 2) rfl; have f9 := hO9.frozen 2)
                have HE := Lib.hid (show InvC W S b (.slice (some ⟨bl, ol, none⟩) n cap) (.slice (some ⟨bp, op, none⟩) n cpp) (cel1 L x ++ cel2 L x y ++ cel3 L x y (z + 1)) (w9.setCell ⟨S, 2, none⟩ (.slice ad9 (NM + 1 : Nat) cap9)) from by
                  rw [HC4.out, ← List.append_assoc, HMM.out]
                  refine ⟨⟨_, _, hml9.chg (Chg.set S 2 w9 _) (Nat.lt_succ_self S) (Nat.lt_succ_self S), hO9.set 2 _⟩, ?_, ?_⟩
                  · exact (HB0.out.trans (hbm9.mono (Nat.le_succ S))).setCell (p := ⟨S, 2, none⟩) (Nat.le_refl S) _
                  · have := hbm9.size
                    rw [World.size_setCell]
                    omega)
                clear hml9 hbm9 hO9 k9 f9 k2
                go_wp2_with fail
                go_roundw
                case rel => exact ⟨z + 1, by omega, by omega, by go_num, HE.out⟩
                case measure => simp [intOf]; omega
end Go.Proofs.YtcionneopgdebaaGreat

/-
  Some texts of this proof in one: CpU CpV. Each part tells what it proves. By an AI agent.
-/

/-
  The areas of all cells, and whether all are 1: the program's. By an AI agent.
-/
namespace Go.Proofs.YtcionneopgdebaaGreat
open Go.RowKit Go.Maps

/-- the double areas of all cells. -/
def areL (L : List Tm) : List Int := (celA L).map fun xs => areaP (hulX L xs)
theorem hulX_sh {L : List Tm} {xs : List Int} (hp : ∀ k, k < L.length → termB (tmAt L k) = true) (hin : ∀ x ∈ xs, ∃ t : Nat, x = t ∧ t < L.length) : AllSh (hulX L xs) := fun p hq => by
  obtain ⟨t, _, ht, rfl⟩ := hulX_in hin p hq
  have := termB_t (hp t ht)
  exact ⟨by show _ ≤ (tmAt L t).i; omega, by show (tmAt L t).i ≤ _; omega, by show _ ≤ (tmAt L t).j; omega, by show (tmAt L t).j ≤ _; omega⟩
theorem SubM.polygon {w : World} {S : Nat} {L : List Tm} {lt : Value} {d : SubD} (h : SubM w S L lt d) (hp : ∀ k, k < L.length → termB (tmAt L k) = true) (hl : L.length ≤ 12) {ad : Option Addr} {cap : Nat} {xs : List Int} (hx : RdI w ad xs) (hm : xs ∈ celA L) :
    Calls Tryz.prog 41 #[.pointer (some ⟨S, 0, none⟩), .slice ad xs.length cap] w (HullTo w (hulX L xs)) := by
  obtain ⟨h1, h2, h3⟩ := celA_in hm
  exact polygon_c S d.bp d.op d.cpp L ad cap xs w h.own.lt (h.own.cell? (i := 1) rfl) h.hbp h.pt hp hx (by omega) (List.length_pos_iff.2 h1) h3

set_option maxHeartbeats 1600000 in
set_option maxRecDepth 100000 in
theorem areas_c (S : Nat) (L : List Tm) (lt : Value) (d : SubD) (w : World) (h : SubM w S L lt d) (hp : ∀ k, k < L.length → termB (tmAt L k) = true) (hl : L.length ≤ 12) :
    Calls Tryz.prog 28 #[.pointer (some ⟨S, 0, none⟩)] w fun e w' => ∃ v, e = .returned v ∧ RowI w' w.heap.size v (areL L) ∧ Below w.heap.size w w' := by
  have HSM := Lib.hid h
  have HPO := Lib.hid (fun w' (hb : Below w.heap.size w w') ad cap k (hk : k < (celA L).length) (hx : RdI w' ad ((celA L).getD k [])) => (h.below hb).polygon hp hl (cap := cap) hx (by rw [List.getD_eq_getElem?_getD, List.getElem?_eq_getElem hk, Option.getD_some]; exact List.getElem_mem hk))
  have HSH := Lib.hid (fun k (hk : k < (celA L).length) => show AllSh (hulX L ((celA L).getD k [])) ∧ (hulX L ((celA L).getD k [])).length ≤ 24 from by
    obtain ⟨_, h2, h3⟩ := celA_in (L := L) (x := (celA L).getD k []) (by rw [List.getD_eq_getElem?_getD, List.getElem?_eq_getElem hk, Option.getD_some]; exact List.getElem_mem hk)
    have := hulX_len L ((celA L).getD k [])
    exact ⟨hulX_sh hp h3, by omega⟩)
  have k2 := h.own.cell? (i := 2) rfl
  have hS := h.own.lt
  have hcl := celA_len L hl
  have HCE := Lib.hid h.cells
  have HTK := Lib.hid (fun k (hk : k < (celA L).length) => takeI_snoc (celA L) k (fun xs => areaP (hulX L xs)) [] hk)
  have HAR := Lib.hid (show areL L = (celA L).map fun xs => areaP (hulX L xs) from rfl)
  generalize areL L = AR at HAR ⊢
  generalize celA L = C at HPO HSH k2 hcl HCE HTK HAR
  obtain ⟨n, hn⟩ : ∃ n, C.length = n := ⟨_, rfl⟩
  rw [hn] at HPO HSH k2 hcl HTK
  have HN := Lib.hid hn
  clear hn h hp
  have HK2 := Lib.hid k2
  have HROW := Lib.hid (show RowI (w.alloc (.cells #[] 3)) w.heap.size (.slice (some ⟨w.heap.size, 0, none⟩) 0 0) [] from row_empty w 3)
  have hbA : Below w.heap.size w (w.alloc (.cells #[] 3)) := bal_alloc (Below.refl _ _)
  have k2 := bcell hbA hS k2
  go_enter Tryz.func28, Tryz.ntmps28
  go_wp2_with fail
  go_loopw [3, 12] (fun s i wr => ∃ (k : Nat) (ys : List Int), k ≤ n ∧ i = .int .i64 k ∧ ((C.take k).map fun xs => areaP (hulX L xs)) = ys ∧ ys.length = k ∧ RowI wr w.heap.size s ys ∧ Below w.heap.size w wr) (fun _ i _ => n - (intOf i).toNat)
  case atStart => exact ⟨0, [], Nat.zero_le _, rfl, rfl, rfl, HROW.out, hbA⟩
  case round =>
    obtain ⟨wE, rfl⟩ : ∃ x : World, x = wr := ⟨_, rfl⟩
    obtain ⟨k, ys, hk, rfl, hys, hyl, hrow, hbel⟩ := hrel
    obtain ⟨ady, cpy, rfl, _⟩ := hrow.shape
    rw [hyl] at hrow ⊢
    have HYS := Lib.hid hys; have HRW := Lib.hid hrow; have HYL := Lib.hid hyl
    have hsz := hbel.size
    clear hys hrow hyl k2 hbA HROW
    by_cases hlt : k < n
    case neg =>
      obtain rfl : n = k := by omega
      have HE := Lib.hid (show AR = ys by rw [HAR.out, ← HYS.out, List.take_of_length_le (by rw [HN.out]; exact Nat.le_refl _)])
      go_wp2_with fail
      go_ret
      exact ⟨_, rfl, by rw [HE.out]; exact HRW.out, hbel⟩
    case pos =>
      obtain ⟨b, o, a, c, hade, _, hb, kc, hrx, _⟩ := (HCE.out.below hbel) k (by rw [HN.out]; exact hlt)
      have CPO := HPO.out wE hbel a c k hlt hrx
      have HSK := HSH.out k hlt
      have HS := HTK.out k hlt
      rw [HYS.out] at HS
      rw [hade]
      generalize C.getD k [] = xs at kc hrx CPO HSK HS
      have CDA := Lib.hid (fun ad cap w (hr : RdP w ad (hulX L xs)) => doubleArea_c ad cap (hulX L xs) w hr (by omega) HSK.1)
      generalize hulX L xs = H at CPO CDA HS
      generalize areaP H = AH at CDA HS
      have CPO := Lib.hid CPO; have HS := Lib.hid HS
      have x1 : (0 : Int) ≤ (k : Int) := by omega
      have x2 : (k : Int) < (n : Int) := by omega
      clear hrx HSK hade
      go_wp2_with fail
      refine CPO.out.mono ?_
      rintro e w3 ⟨adh, caph, rfl, hrh, hb3⟩
      have CD := Lib.hid (CDA.out adh caph w3 hrh)
      clear CPO hrh CDA kc
      go_wp2_with fail
      refine CD.out.mono ?_
      rintro e w4 ⟨rfl, hb4⟩
      have hbX := ball (ball hbel hb3) hb4
      have hbX2 := hbX.size
      have HRC := Lib.hid ((HRW.out.below hb3).below hb4)
      clear hb3 hb4 CD
      go_wp2_with (at_builtin; refine wpList_appN rfl _ _ rfl w.heap.size _ 0 1 _ ys [AH] (k + 1) (by rw [HYL.out]; rfl) rfl rfl (HRC.out.below ((Below.refl _ _).alloc (Nat.le_refl _) _)) (rdI_one _ _ _ rfl) (by rw [HYL.out]; omega) (by simp) (by simp; omega) ?_; intro v5 wm hown hsh hbm hgr)
      have hb5 := (bal_alloc (o := .cells #[.int .i64 AH] 3) hbX).trans hbm
      have HO5 := Lib.hid hown; clear hown hsh hgr hbm
      go_wp2_with fail
      go_roundw
      case rel => exact ⟨k + 1, ys ++ [AH], by omega, by go_num, HS.out, by rw [List.length_append, HYL.out]; rfl, HO5.out, hb5⟩
      case measure => simp [intOf]; omega
end Go.Proofs.YtcionneopgdebaaGreat

/-
  CellAreas and IsSmooth: the program's. By an AI agent.
-/
namespace Go.Proofs.YtcionneopgdebaaGreat
open Go.RowKit Go.Maps

theorem planeB_t {L : List Tm} (h : planeB L = true) : 0 < L.length ∧ L.length ≤ 12 ∧ ∀ k, k < L.length → termB (tmAt L k) = true := by
  unfold planeB at h
  rw [Bool.and_eq_true, inB_t] at h
  exact ⟨by omega, by omega, fun k hk => plnK_term h.2 hk⟩
/-- What subdivided gives. -/
def SubO (B : Bool) (L : List Tm) (lt : Value) (w : World) (e : Ending) (w' : World) : Prop := Below w.heap.size w w' ∧ if B = true then ∃ (S : Nat) (d : SubD), e = .returned (.tuple #[.pointer (some ⟨S, 0, none⟩), .bool true]) ∧ SubM w' S L lt d else e = .returned (.tuple #[.pointer none, .bool false])
set_option maxHeartbeats 800000 in
theorem subdivided_c (ad : Option Addr) (cap : Nat) (L : List Tm) (w : World) (hr : RdT w ad L) (hl : L.length ≤ 1048576) :
    Calls Tryz.prog 25 #[.slice ad L.length cap] w (SubO (planeB L) L (.slice ad L.length cap) w) := by
  have CI := Lib.hid (isPlane_c ad cap L w hr hl)
  cases hB : planeB L
  case false =>
    rw [hB] at CI
    have HQ := Lib.hid (fun w' (h : Below w.heap.size w w') => show SubO false L (.slice ad L.length cap) w (.returned (.tuple #[.pointer none, .bool false])) w' from ⟨h, by rw [if_neg (by simp)]⟩)
    generalize SubO false L (.slice ad L.length cap) w = Q at HQ ⊢
    generalize L.length = n at CI ⊢
    clear hr hB hl
    go_enter Tryz.func25, Tryz.ntmps25
    go_wp2_with fail
    refine CI.out.mono ?_
    rintro e w1 ⟨rfl, hb1⟩
    go_wp2_with fail
    exact HQ.out _ hb1
  case true =>
    rw [hB] at CI
    obtain ⟨h0, h12, hp⟩ := planeB_t hB
    obtain ⟨bl, ol, rfl, _⟩ := hr 0 h0
    have CS := Lib.hid (fun w' (h : Below w.heap.size w w') => subdivide_c bl ol cap L w' (hr.below h) hp h12 h0)
    have HQ := Lib.hid (fun w' (h : Below w.heap.size w w') S d (h2 : SubM w' S L (.slice (some ⟨bl, ol, none⟩) L.length cap) d) => show SubO true L (.slice (some ⟨bl, ol, none⟩) L.length cap) w (.returned (.tuple #[.pointer (some ⟨S, 0, none⟩), .bool true])) w' from ⟨h, by rw [if_pos rfl]; exact ⟨S, d, rfl, h2⟩⟩)
    generalize SubO true L (.slice (some ⟨bl, ol, none⟩) L.length cap) w = Q at HQ ⊢
    unfold SubR at CS
    obtain ⟨n, hn⟩ : ∃ n, L.length = n := ⟨_, rfl⟩
    rw [hn] at CI CS HQ ⊢
    clear hr hB hl hn h0 h12 hp
    go_enter Tryz.func25, Tryz.ntmps25
    go_wp2_with fail
    refine CI.out.mono ?_
    rintro e w1 ⟨rfl, hb1⟩
    go_wp2_with fail
    refine (CS.out _ hb1).mono ?_
    rintro e w2 ⟨S, d, rfl, hsm, hb2⟩
    have HF := Lib.hid (HQ.out _ (ball hb1 hb2) S d hsm)
    clear hsm
    go_wp2_with fail
    exact HF.out

set_option maxHeartbeats 800000 in
theorem iCellAreas_c (ad : Option Addr) (cap : Nat) (L : List Tm) (w : World) (hr : RdT w ad L) (hl : L.length ≤ 1048576) :
    Calls Tryz.prog 8 #[.slice ad L.length cap] w (CelR (planeB L) (areL L) w) := by
  have CI := Lib.hid (subdivided_c ad cap L w hr hl)
  cases hB : planeB L
  case false =>
    rw [hB] at CI
    have HQ := Lib.hid (fun w' (h : Below w.heap.size w w') => CelR.no (areL L) h)
    generalize CelR false (areL L) w = Q at HQ ⊢
    generalize L.length = n at CI ⊢
    clear hr hB hl
    go_enter Tryz.func8, Tryz.ntmps8
    go_wp2_with fail
    refine CI.out.mono ?_
    rintro e w1 ⟨hb1, he⟩
    rw [if_neg (by simp)] at he
    subst he
    go_wp2_with fail
    exact HQ.out _ hb1
  case true =>
    rw [hB] at CI
    obtain ⟨h0, h12, hp⟩ := planeB_t hB
    have CA := Lib.hid (fun w' S d (h : SubM w' S L (.slice ad L.length cap) d) => areas_c S L _ d w' h hp h12)
    have HQ := Lib.hid (fun w' v (h2 : RowI w' w.heap.size v (areL L)) (h : Below w.heap.size w w') => CelR.yes h2 h)
    generalize CelR true (areL L) w = Q at HQ ⊢
    generalize areL L = AR at CA HQ
    obtain ⟨n, hn⟩ : ∃ n, L.length = n := ⟨_, rfl⟩
    rw [hn] at CI CA ⊢
    clear hr hB hl hn h0 h12 hp
    go_enter Tryz.func8, Tryz.ntmps8
    go_wp2_with fail
    refine CI.out.mono ?_
    rintro e w1 ⟨hb1, he⟩
    rw [if_pos rfl] at he
    obtain ⟨S, d, rfl, hsm⟩ := he
    have C2 := Lib.hid (CA.out w1 S d hsm)
    clear hsm CA CI
    go_wp2_with fail
    refine C2.out.mono ?_
    rintro e w2 ⟨v, rfl, hrow, hb2⟩
    have HF := Lib.hid (HQ.out w2 v (rowI_low hrow hb1.size) (ball hb1 hb2))
    clear hrow HQ C2
    go_wp2_with fail
    exact HF.out

end Go.Proofs.YtcionneopgdebaaGreat
