/-
  Some texts of this proof in one: CpK CpO. Each part tells what it proves. By an AI agent.
-/
import Derived.Test.YtcionneopgdebaaGreatCeQ
import Derived.Maps.OwnRows
import Derived.Maps.RangeWalk
import Derived.WideKeyEntry
import Derived.WideKeyPair

/-
  m[k] = append(m[k], x) on a map of lists: the entry, then the store in it. By an AI agent.
-/
namespace Go.Proofs.YtcionneopgdebaaGreat
open Go.RowKit Go.Maps
open Go.ChangeMaps (setBlock heap_setBlock_same heap_setBlock_other)
open Go.WideElems (Fit findIdx_born findIdx_arr modify_last set_self)
open Go.MapKept (stamped_iff)
open Go.ChangeMaps (modify_eq_set)

section
variable {H : Type} {P : Program} {t k e : TypeId} {b : Nat} {es : Array MapEntry} {clock : Nat}

theorem at_one : ∀ {l : List MapEntry}, l.Pairwise (fun x y => x.key ≠ y.key) → ∀ {i j : Nat} {x y : MapEntry}, l[i]? = some x → l[j]? = some y → x.key = y.key → i = j := by
  intro l hp i j x y hi hj hxy
  obtain ⟨h1, e1⟩ := List.getElem?_eq_some_iff.1 hi
  obtain ⟨h2, e2⟩ := List.getElem?_eq_some_iff.1 hj
  have h := List.pairwise_iff_getElem.1 hp
  rcases Nat.lt_trichotomy i j with g | g | g
  · exact absurd (by rw [e1, e2]; exact hxy) (h i j h1 h2 g)
  · exact g
  · exact absurd (by rw [e1, e2]; exact hxy.symm) (h j i h2 h1 g)
/-- the search finds the same in all worlds. -/
theorem find_all (K : WideMaps.KeyLaw P k) {key : Value} {kl : Lit} (hkey : keyOf P k key = some kl) (l : List MapEntry) (hk : ∀ x ∈ l, ∃ q, keyOf P k x.key = some q) (hp : l.Pairwise (fun x y => x.key ≠ y.key)) (w0 : World) :
    ((∀ x ∈ l, x.key ≠ key) ∧ ∀ u : World, (Instr.findKey k key l).run P u = .ok none u) ∨ ∃ j e0, l[j]? = some e0 ∧ e0.key = key ∧ ∀ u : World, (Instr.findKey k key l).run P u = .ok (some (j, e0.val)) u := by
  rcases K.find w0 hkey l hk with ⟨h1, h2⟩ | ⟨j, e0, h1, h2, h3⟩
  · refine Or.inl ⟨h2, fun u => ?_⟩
    rcases K.find u hkey l hk with ⟨a, _⟩ | ⟨j, e0, _, hj, hc⟩
    · exact a
    · exact absurd hc (h2 e0 (List.mem_of_getElem? hj))
  · refine Or.inr ⟨j, e0, h2, h3, fun u => ?_⟩
    rcases K.find u hkey l hk with ⟨_, hb⟩ | ⟨j', e', a, hj, hc⟩
    · exact absurd h3 (hb e0 (List.mem_of_getElem? h2))
    · obtain rfl := at_one hp h2 hj (h3.trans hc.symm)
      rw [h2] at hj
      cases hj
      exact a
/-- The entry, in whatever world, and the store in it: as one update. -/
theorem entry_all (K : WideMaps.KeyLaw P k) (ht : P.underlying t = some (.map k e)) {z : Value} (hz : ∀ u : World, (zeroValue e).run P u = .ok z u) (R : Value → Option (DataW H × List MemPlace)) (F : Fit P k R es clock) {key : Value} {kl : Lit} (hkey : keyOf P k key = some kl) (w0 : World) :
    ∃ (v0 : Value) (st : Nat) (es1 : Array MapEntry) (clock1 : Nat),
      (∀ u : World, u.heap[b]? = some (.map es clock) → (Instr.mapEntry t (.map (some b)) key).run P u = .ok (.tuple #[v0, goInt st]) (setBlock u b (.map es1 clock1))) ∧
      ((∃ e0 ∈ es.toList, e0.key = key ∧ v0 = e0.val) ∨ ((∀ x ∈ es.toList, x.key ≠ key) ∧ v0 = z)) ∧
      ∀ val : Value, ∃ es' clock', (∀ u : World, u.heap[b]? = some (.map es1 clock1) → (Instr.entryStore t (.map (some b)) (goInt st) val).run P u = .ok () (setBlock u b (.map es' clock'))) ∧
        ∀ u : World, u.heap[b]? = some (.map es clock) → (Instr.mapUpdate t (.map (some b)) key val).run P u = .ok () (setBlock u b (.map es' clock')) := by
  obtain ⟨s1, s2, s3⟩ := (stamped_iff es clock).1 F.stamped
  rcases find_all K hkey es.toList F.keys s3 w0 with ⟨h2, h1⟩ | ⟨j, e0, h2, h3, h1⟩
  · refine ⟨z, clock, es.push ⟨key, z, clock⟩, clock + 1, fun u hu => ?_, Or.inr ⟨h2, rfl⟩, fun val => ⟨es.push ⟨key, val, clock⟩, clock + 1, fun u hu => ?_, fun u hu => ?_⟩⟩
    · simp [Instr.mapEntry, run_underlying ht, MapKept.run_getObj_map hu, K.check u false hkey, h1, hz, MapKept.run_setObj_map _ hu, Result.andThen, setBlock]
    · have hidx : (es.push ⟨key, z, clock⟩).findIdx? (fun e => ((e.born : Nat) : Int) == ((clock : Nat) : Int)) = some es.size := by
        rw [findIdx_arr]
        have hnd : ((es.push ⟨key, z, clock⟩).toList.map (·.born)).Nodup := by
          simp only [Array.toList_push, List.map_append, List.map_cons, List.map_nil]
          refine List.nodup_append.2 ⟨s2, by simp, fun a ha c hc e1 => ?_⟩
          obtain ⟨x, hx, rfl⟩ := List.mem_map.1 ha
          have := s1 x hx
          rw [List.mem_singleton] at hc
          omega
        exact findIdx_born (j := es.size) (e0 := ⟨key, z, clock⟩) hnd (by simp)
      have hmod : (es.push ⟨key, z, clock⟩).modify es.size (fun e => { e with val := val }) = es.push ⟨key, val, clock⟩ := by
        apply Array.ext'
        rw [Array.toList_modify, Array.toList_push, Array.toList_push, ← Array.length_toList, modify_last]
      simp [Instr.entryStore, MapKept.run_getObj_map hu, asInt, asIntOf, goInt, hidx, hmod, MapKept.run_setObj_map _ hu, Result.andThen, setBlock]
    · simp [Instr.mapUpdate, run_underlying ht, MapKept.run_getObj_map hu, K.check u false hkey, h1, MapKept.run_setObj_map _ hu, Result.andThen, setBlock]
  · have hj : es[j]? = some e0 := by simpa using h2
    have hsame : es.modify j (fun e => { e with key := key }) = es := by
      apply Array.ext'
      rw [Array.toList_modify, modify_eq_set _ _ _ _ h2]
      exact set_self _ _ _ (by rw [h2, ← h3])
    refine ⟨e0.val, e0.born, es, clock, fun u hu => ?_, Or.inl ⟨e0, List.mem_of_getElem? h2, h3, rfl⟩, fun val => ⟨es.modify j (fun e' => { e' with key := key, val := val }), clock, fun u hu => ?_, fun u hu => ?_⟩⟩
    · simp [Instr.mapEntry, run_underlying ht, MapKept.run_getObj_map hu, K.check u false hkey, h1, hj, h3, K.stays u hkey, hsame, MapKept.run_setObj_map _ hu, Result.andThen, setBlock]
    · have hidx : es.findIdx? (fun e => ((e.born : Nat) : Int) == ((e0.born : Nat) : Int)) = some j := by
        rw [findIdx_arr]
        exact findIdx_born s2 h2
      have hmod : es.modify j (fun e => { e with val := val }) = es.modify j (fun e' => { e' with key := key, val := val }) := by
        apply Array.ext'
        rw [Array.toList_modify, Array.toList_modify, modify_eq_set _ _ _ _ h2, modify_eq_set _ _ _ _ h2, ← h3]
      simp [Instr.entryStore, MapKept.run_getObj_map hu, asInt, asIntOf, goInt, hidx, hmod, MapKept.run_setObj_map _ hu, Result.andThen, setBlock]
    · simp [Instr.mapUpdate, run_underlying ht, MapKept.run_getObj_map hu, K.check u false hkey, h1, hj, h3, K.stays u hkey, MapKept.run_setObj_map _ hu, Result.andThen, setBlock]
end

/-! ### at this dump: keys of two numbers, lists of numbers -/
theorem arrK : WideMaps.ArrKey Tryz.prog 94 3 2 := ⟨by kernel_rfl, by kernel_rfl, by kernel_rfl, by kernel_rfl⟩
theorem lawK : WideMaps.KeyLaw Tryz.prog 94 := arrK.law
theorem keydK : Keyed Tryz.prog 94 := Keyed.of_law lawK
theorem undM : Tryz.prog.underlying 54 = some (.map 94 29) := by kernel_rfl
theorem zeroL (u : World) : (zeroValue 29).run Tryz.prog u = .ok (.slice none 0 0) u := by kernel_rfl
/-- what a key reads as. -/
def kP (a b : Int) : Lit := .string (keyBytes [.int .i64 a, .int .i64 b])
def Wf (a : Int) : Prop := (Lit.int .i64 a).wf = true
set_option maxRecDepth 100000 in
theorem typesP : ∃ m, Tryz.prog.types.size = m + 1 := by
  have h : 0 < Tryz.prog.types.size := of_decide_eq_true (by kernel_rfl)
  exact ⟨Tryz.prog.types.size - 1, (Nat.sub_add_cancel h).symm⟩
theorem keyP {a b : Int} (ha : Wf a) (hb : Wf b) : keyOf Tryz.prog 94 (.agg #[.int .i64 a, .int .i64 b]) = some (kP a b) := WideMaps.keyOf_pair arrK (by kernel_rfl) typesP ha hb
theorem kP_inj {a b c d : Int} (ha : Wf a) (hb : Wf b) (hc : Wf c) (hd : Wf d) (h : kP a b = kP c d) : a = c ∧ b = d := by
  have := lawK.inj (keyP ha hb) (by rw [h]; exact keyP hc hd)
  injection this with this
  simp only [Array.mk.injEq, List.cons.injEq, Value.int.injEq, and_true, true_and] at this
  exact this
theorem wf_nat {a : Int} (h0 : -1000000 ≤ a) (h1 : a ≤ 1000000) : Wf a := WalkArith.wf_i64 (by omega)
def OwnG (w : World) (Z b n : Nat) (D : DataW Unit) : Prop := w.ownsGroups (H := Unit) Tryz.prog 94 Z 3 .i64 b n D

theorem sb_twice (w : World) (b : Nat) (o o' : Obj) : setBlock (setBlock w b o) b o' = setBlock w b o' := by
  unfold setBlock
  simp

set_option maxRecDepth 100000 in
theorem groups_entry {w : World} {Z b n : Nat} {D : DataW Unit} (h : OwnG w Z b n D) (hn : n < maxLen) {key : Value} {kl : Lit} (hkey : keyOf Tryz.prog 94 key = some kl) :
    ∃ (v0 : Value) (st : Nat) (zs : List Int) (es : Array MapEntry) (clock : Nat) (es1 : Array MapEntry) (clock1 : Nat), w.heap[b]? = some (.map es clock) ∧ D.atKey kl .nil = rowDatum .i64 v0 zs ∧ w.ownsInts Z 3 .i64 v0 zs ∧ zs.length ≤ n ∧ v0.ownBlock ≠ some b ∧ (v0.ownBlock = none ∨ ∃ x ∈ es.toList, x.val = v0) ∧
      (∀ u : World, u.heap[b]? = some (.map es clock) → (Instr.mapEntry 54 (.map (some b)) key).run Tryz.prog u = .ok (.tuple #[v0, goInt st]) (setBlock u b (.map es1 clock1))) ∧
      ∀ (u : World) (v' : Value) (zs' : List Int), w.grownBy (setBlock u b (.map es clock)) v0.ownBlock → u.heap[b]? = some (.map es1 clock1) → (setBlock u b (.map es clock)).ownsInts Z 3 .i64 v' zs' → zs'.length ≤ n + 1 → (v'.ownBlock = v0.ownBlock ∨ ∃ g, v'.ownBlock = some g ∧ w.heap.size ≤ g) →
        ∃ (es' : Array MapEntry) (clock' : Nat), (Instr.entryStore 54 (.map (some b)) (goInt st) v').run Tryz.prog u = .ok () (setBlock u b (.map es' clock')) ∧ OwnG (setBlock u b (.map es' clock')) Z b (n + 1) (D.put kl (rowDatum .i64 v' zs')) ∧ ∀ x ∈ es'.toList, x ∈ es.toList ∨ x.val = v' := by
  obtain ⟨es, clock, hb, F, hs, rfl, hbb, hlen, hap⟩ := h
  obtain ⟨v0, st, es1, clock1, hE, hcase, hS⟩ := entry_all (b := b) lawK undM zeroL (rowElem (H := Unit) w Z 3 .i64) F hkey w
  have hpair : es.toList.Pairwise (fun x y => x.key ≠ y.key) := ((stamped_iff es clock).1 F.stamped).2.2
  -- what stands there
  have hv0 : ∃ zs, (DataW.map ((es.toList.map (WideElems.rg Tryz.prog 94 (rowElem (H := Unit) w Z 3 .i64))).foldr DataW.insert [])).atKey kl .nil = rowDatum .i64 v0 zs ∧ w.ownsInts Z 3 .i64 v0 zs ∧ zs.length ≤ n ∧ v0.ownBlock ≠ some b ∧ (v0.ownBlock = none ∨ ∃ x ∈ es.toList, x.val = v0) ∧ ∀ x ∈ es.toList, x.key ≠ key → x.val.ownBlock = none ∨ x.val.ownBlock ≠ v0.ownBlock := by
    rcases Maps.fit_look false keydK undM (zeroL w) hb F hkey with ⟨_, hno, hat⟩ | ⟨e0, y, hm0, h3, _, hR, hat, _⟩
    · rcases hcase with ⟨e0, hm, hk, _⟩ | ⟨_, rfl⟩
      · exact absurd hk (hno e0 hm)
      · refine ⟨[], hat _, World.ownsInts_nil _ _ _ _, Nat.zero_le _, by simp [Value.ownBlock], Or.inl rfl, fun x _ _ => ?_⟩
        cases x.val.ownBlock <;> simp [Value.ownBlock]
    · rcases hcase with ⟨e1, hm, hk, rfl⟩ | ⟨hno, _⟩
      · obtain rfl := entry_eq_of_key hpair hm hm0 (hk.trans h3.symm)
        obtain ⟨zs, ho, rfl⟩ := rowElem_inv hR
        refine ⟨zs, hat _, ho, hlen e1 hm zs ho, fun e2 => ?_, Or.inr ⟨e1, hm, rfl⟩, fun x hx hne => hap x hx e1 hm (by rw [hk]; exact hne)⟩
        have := (ho.1.lt b e2).1
        omega
      · exact absurd h3 (hno e0 hm0)
  obtain ⟨zs, hat, hoi, hzl, hnb, hsrc, hsep⟩ := hv0
  refine ⟨v0, st, zs, es, clock, es1, clock1, hb, hat, hoi, hzl, hnb, hsrc, hE, fun u v' zs' hg hu ho' hl' hloc => ?_⟩
  have hu1 : (setBlock u b (.map es clock)).heap[b]? = some (.map es clock) := heap_setBlock_same hu _
  obtain ⟨es', clock', hst, hup⟩ := hS v'
  have hback := groups_back (t := 54) keydK undM hb F hs hn hbb hlen hap hkey hsep hnb
  obtain ⟨w2, hrun, hown2, _⟩ := hback (setBlock u b (.map es clock)) v' zs' hg ho' hl' hloc
  rw [hup _ hu1, sb_twice] at hrun
  cases hrun
  have hblt : b < w.heap.size := (Array.getElem?_eq_some_iff.1 hb).1
  have hs1 : ∀ x ∈ es.toList, x.key ≠ key → ∀ z, rowElem (H := Unit) w Z 3 .i64 x.val = some z → rowElem (setBlock u b (.map es clock)) Z 3 .i64 x.val = some z := by
    intro x hx hne z hz
    obtain ⟨ys, ho, rfl⟩ := rowElem_inv hz
    exact rowElem_mk (ho.kept hg (hsep x hx hne))
  obtain ⟨es'', clock'', hrun2, _, _, _, _, hwho⟩ := Maps.fit_store (R' := rowElem (setBlock u b (.map es clock)) Z 3 .i64) keydK undM hu1 F (Nat.lt_of_le_of_lt hs hn) hs1 hkey (rowElem_mk ho')
  rw [hup _ hu1, sb_twice, sb_twice] at hrun2
  have he : es'' = es' := by
    have h1 : (setBlock u b (.map es' clock')).heap[b]? = some (.map es' clock') := heap_setBlock_same hu _
    have h2 : (setBlock u b (.map es'' clock'')).heap[b]? = some (.map es'' clock'') := heap_setBlock_same hu _
    have h3 : setBlock u b (.map es' clock') = setBlock u b (.map es'' clock'') := by injection hrun2
    rw [← h3, h1] at h2
    injection h2 with h2
    injection h2 with h2 _
    exact h2.symm
  refine ⟨es', clock', hst u hu, hown2, fun x hx => ?_⟩
  rw [← he] at hx
  rcases hwho x hx with ⟨h1, _⟩ | ⟨_, h2⟩
  · exact Or.inl h1
  · exact Or.inr h2
end Go.Proofs.YtcionneopgdebaaGreat

/-
  The cells at each edge: what the program's map holds. By an AI agent.
-/
namespace Go.Proofs.YtcionneopgdebaaGreat
open Go.RowKit Go.Maps
open Go.ChangeMaps Go.ChangeShapes

def SdF : Type := Int → Int → List Int
def addM (m : SdF) (a b n : Int) : SdF := fun x y => if x = a ∧ y = b then m x y ++ [n] else m x y
/-- the i-th side of a polygon's corners. -/
def sidA (l : List Int) (i : Nat) : Int := min (l.getD i 0) (l.getD ((i + 1) % l.length) 0)
def sidB (l : List Int) (i : Nat) : Int := max (l.getD i 0) (l.getD ((i + 1) % l.length) 0)
/-- a cell's number at each of its first sides. -/
def sdC (m : SdF) (l : List Int) (n : Nat) : Nat → SdF
  | 0 => m
  | i + 1 => addM (sdC m l n i) (sidA l i) (sidB l i) n
/-- the first cells' numbers at their sides. -/
def sdA (L : List Tm) (C : List (List Int)) : Nat → SdF
  | 0 => fun _ _ => []
  | k + 1 => sdC (sdA L C k) (corX L (C.getD k [])) k (corX L (C.getD k [])).length

/-- The datum holds just this. -/
structure AgrG (D : DataW Unit) (m : SdF) : Prop where
  has : ∀ a b, Wf a → Wf b → Maps.has D (kP a b) = decide (m a b ≠ [])
  at' : ∀ a b, Wf a → Wf b → m a b ≠ [] → ∀ zd, D.atKey (kP a b) zd = .slice (lits .i64 (m a b)) []
  key : ∀ kl, Maps.has D kl = true → ∃ a b, Wf a ∧ Wf b ∧ kl = kP a b
theorem agrG_made : AgrG (.map []) (fun _ _ => []) := ⟨fun _ _ _ _ => rfl, fun _ _ _ _ h => absurd rfl h, fun _ h => by cases h⟩
theorem lits_inj {q : IntKind} {zs ys : List Int} (h : lits (H := Unit) q zs = lits q ys) : zs = ys := by
  unfold lits at h
  exact (List.map_inj_right (fun a b hab => by injection hab with hab; injection hab)).1 h
theorem agrG_at {w : World} {Z : Nat} {D : DataW Unit} {m : SdF} (h : AgrG D m) {a b : Int} (ha : Wf a) (hb : Wf b) {v : Value} {zs : List Int} (ho : w.ownsInts Z 3 .i64 v zs) (hat : D.atKey (kP a b) .nil = rowDatum .i64 v zs) : zs = m a b := by
  by_cases e : m a b = []
  · rw [e]
    have h1 := h.has a b ha hb
    rw [decide_eq_false (fun g => g e)] at h1
    rw [Maps.atKey_of_not_has h1] at hat
    rcases ho.datum (H := Unit) with ⟨_, h0⟩ | h1
    · exact h0
    · rw [h1] at hat; cases hat
  · rw [h.at' a b ha hb e] at hat
    rcases ho.datum (H := Unit) with ⟨h1, _⟩ | h1
    · rw [h1] at hat; cases hat
    · rw [h1] at hat
      injection hat with hat
      exact (lits_inj hat).symm
theorem agrG_put {D : DataW Unit} {m : SdF} (h : AgrG D m) (hD : Maps.IsMap D) {a b n : Int} (ha : Wf a) (hb : Wf b) : AgrG (D.put (kP a b) (.slice (lits .i64 (m a b ++ [n])) [])) (addM m a b n) := by
  have hne : ∀ x y, Wf x → Wf y → ¬ (x = a ∧ y = b) → kP x y ≠ kP a b := fun x y hx hy hn e => hn (kP_inj hx hy ha hb e)
  refine ⟨fun x y hx hy => ?_, fun x y hx hy hm zd => ?_, fun kl hkl => ?_⟩
  · by_cases e : x = a ∧ y = b
    · obtain ⟨rfl, rfl⟩ := e
      rw [Maps.has_put_same hD (show WideAt.IsKeyLit (kP x y) from trivial)]
      unfold addM
      rw [if_pos ⟨rfl, rfl⟩]
      simp
    · rw [Maps.has_put_other (hne x y hx hy e), h.has x y hx hy]
      unfold addM
      rw [if_neg e]
  · by_cases e : x = a ∧ y = b
    · obtain ⟨rfl, rfl⟩ := e
      rw [Maps.atKey_put_same hD (show WideAt.IsKeyLit (kP x y) from trivial)]
      unfold addM
      rw [if_pos ⟨rfl, rfl⟩]
    · unfold addM at hm ⊢
      rw [if_neg e] at hm ⊢
      rw [Maps.atKey_put_other (hne x y hx hy e)]
      exact h.at' x y hx hy hm zd
  · by_cases e : kl = kP a b
    · exact ⟨a, b, ha, hb, e⟩
    · rw [Maps.has_put_other e] at hkl
      exact h.key kl hkl

/-- The keys met so far. -/
structure KsOk (m : SdF) (left : Lit → Bool) (ks : List (Int × Int)) : Prop where
  nodup : ks.Nodup
  wf : ∀ e ∈ ks, Wf e.1 ∧ Wf e.2
  mem : ∀ a b, Wf a → Wf b → ((a, b) ∈ ks ↔ m a b ≠ [] ∧ left (kP a b) = false)
theorem KsOk.start {D : DataW Unit} {m : SdF} (h : AgrG D m) : KsOk m (Maps.has D) [] := ⟨List.nodup_nil, fun _ h => (by cases h), fun a b ha hb => by
  rw [h.has a b ha hb]
  constructor
  · intro h; cases h
  · rintro ⟨h1, h2⟩; exact absurd h1 (by simpa using h2)⟩
theorem KsOk.step {D : DataW Unit} {m : SdF} {left : Lit → Bool} {ks : List (Int × Int)} (h : KsOk m left ks) (_hA : AgrG D m) {a b : Int} (ha : Wf a) (hb : Wf b) (hm : m a b ≠ []) (hl : left (kP a b) = true) : KsOk m (fun z => left z && !z.sameKey (kP a b)) (ks ++ [(a, b)]) := by
  have hno : (a, b) ∉ ks := fun hc => by
    have := ((h.mem a b ha hb).1 hc).2
    rw [hl] at this; cases this
  refine ⟨?_, fun e he => ?_, fun x y hx hy => ?_⟩
  · rw [List.nodup_append]
    exact ⟨h.nodup, by simp, fun p hp q hq => by rw [List.mem_singleton] at hq; subst hq; intro e; subst e; exact hno hp⟩
  · rcases List.mem_append.1 he with he | he
    · exact h.wf e he
    · rw [List.mem_singleton] at he; subst he; exact ⟨ha, hb⟩
  · rw [List.mem_append, List.mem_singleton, h.mem x y hx hy]
    by_cases e : x = a ∧ y = b
    · obtain ⟨rfl, rfl⟩ := e
      have hs : (kP x y).sameKey (kP x y) = true := WideAt.sameKey_self trivial
      simp [hs, hm]
    · have hs : (kP x y).sameKey (kP a b) = false := by
        cases hc : (kP x y).sameKey (kP a b)
        · rfl
        · exact absurd (kP_inj hx hy ha hb (WideAt.sameKey_eq hc)) e
      have hp : (x, y) ≠ (a, b) := fun q => e (by injection q with q1 q2; exact ⟨q1, q2⟩)
      simp [hs, hp]
theorem KsOk.all {m : SdF} {left : Lit → Bool} {ks : List (Int × Int)} (h : KsOk m left ks) (hl : ∀ kl, left kl = false) {a b : Int} (ha : Wf a) (hb : Wf b) : (a, b) ∈ ks ↔ m a b ≠ [] := by
  rw [h.mem a b ha hb, hl]
  simp
def prL (e : Int × Int) : List Int := [e.1, e.2]
/-- edges in order: all pairs with cells. -/
structure EdgF (m : SdF) (E : List (List Int)) : Prop where
  strict : LstSort.Strict E
  mem : ∀ a b, Wf a → Wf b → ([a, b] ∈ E ↔ m a b ≠ [])
  two : ∀ x ∈ E, ∃ a b, Wf a ∧ Wf b ∧ x = [a, b]
theorem compact_nodup : ∀ {l : List (List Int)}, l.Nodup → LstSort.compactF l = l
  | [], _ => rfl
  | [a], _ => rfl
  | a :: b :: l, h => by
    have h1 := List.nodup_cons.1 h
    unfold LstSort.compactF
    rw [if_neg (fun e => h1.1 (by rw [e]; simp)), compact_nodup h1.2]
theorem KsOk.edges {m : SdF} {left : Lit → Bool} {ks : List (Int × Int)} (h : KsOk m left ks) (hl : ∀ kl, left kl = false) : EdgF m (LstSort.srt (ks.map prL)) := by
  have hnd : (ks.map prL).Nodup := by
    refine List.pairwise_map.2 (h.nodup.imp fun {p q} hne e => hne ?_)
    unfold prL at e
    injection e with e1 e2
    injection e2 with e2 _
    exact Prod.ext e1 e2
  have hs : LstSort.Strict (LstSort.srt (ks.map prL)) := by
    have h1 := LstSort.compactF_strict (LstSort.srt_pairwise (ks.map prL))
    have h2 : (LstSort.srt (ks.map prL)).Nodup := (List.mergeSort_perm _ _).nodup_iff.2 hnd
    rwa [compact_nodup h2] at h1
  refine ⟨hs, fun a b ha hb => ?_, fun x hx => ?_⟩
  · rw [LstSort.srt_mem, ← h.all hl ha hb, List.mem_map]
    constructor
    · rintro ⟨e, he, h2⟩
      unfold prL at h2
      injection h2 with e1 e2
      injection e2 with e2 _
      rw [← e1, ← e2]
      exact he
    · intro he
      exact ⟨(a, b), he, rfl⟩
  · rw [LstSort.srt_mem, List.mem_map] at hx
    obtain ⟨e, he, rfl⟩ := hx
    exact ⟨e.1, e.2, (h.wf e he).1, (h.wf e he).2, rfl⟩
end Go.Proofs.YtcionneopgdebaaGreat
