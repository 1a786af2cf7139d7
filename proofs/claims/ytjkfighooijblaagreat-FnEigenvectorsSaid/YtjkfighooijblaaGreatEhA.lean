/-
  The one that visits circuits and keeps the least mean, the first circuit with it and the nodes: the program's. By an AI agent.
-/
import Derived.Test.YtjkfighooijblaaGreatEgY
import Derived.Test.YtjkfighooijblaaGreatEgZ
import Derived.Deep.RegionHeld3
namespace Go.Proofs.YtjkfighooijblaaGreat
open Go.RowKit

/-! ### worlds that grow -/
section
variable {w X Y : World} {P : Nat → Prop}
theorem FrP.sT {b i : Nat} (h : FrP w.heap.size P w X) (hb : P b) (v : Value) : FrP w.heap.size P w (X.setCell ⟨b, i, none⟩ v) := h.trans (FrP.of_chg (Chg.set b i X v) h.size hb)
theorem FrP.aT (h : FrP w.heap.size P w X) (o : Obj) : FrP w.heap.size P w (X.alloc o) := h.trans (FrP.of_below (bal_alloc (Below.refl _ _)) h.size)
theorem FrP.dT (h : FrP w.heap.size P w X) : FrP w.heap.size P w X.drew := h.trans (FrP.of_below (Below.refl X.heap.size X).drew h.size)
theorem FrP.bT (h : FrP w.heap.size P w X) (hb : Below X.heap.size X Y) : FrP w.heap.size P w Y := h.trans (FrP.of_below hb h.size)
theorem RowI.sT {v : Value} {l : List Int} {B b i : Nat} (h : RowI w B v l) (hb : v.ownBlock ≠ some b) (x : Value) : RowI (w.setCell ⟨b, i, none⟩ x) B v l := ownsRow_setCell_other h hb x
theorem RowI.dT {v : Value} {l : List Int} {B : Nat} (h : RowI w B v l) : RowI w.drew B v l := h.below (Below.refl _ _).drew
theorem RowI.rdT {B : Nat} {ad : Option Addr} {n cap : Nat} {l : List Int} (h : RowI w B (.slice ad n cap) l) : RdI w ad l := by
  obtain ⟨ad', cap', e, hr⟩ := h.shape
  injection e with e1 _ _
  subst e1
  exact hr
theorem Own.set1 {g : Nat} {E : TypeId} {a : Value} (h : Own w g E [a]) (v : Value) : Own (w.setCell ⟨g, 0, none⟩ v) g E [v] := h.set 0 v
end

theorem Own.sO {w : World} {g b i : Nat} {E : TypeId} {cs : List Value} (hg : g ≠ b) (h : Own w g E cs) (v : Value) : Own (w.setCell ⟨b, i, none⟩ v) g E cs := h.setOther (a := ⟨b, i, none⟩) hg v
theorem FrO.sO {w : World} {g b i : Nat} {f : Fr} (hg : g ≠ b) (h : FrO w g f) (v : Value) : FrO (w.setCell ⟨b, i, none⟩ v) g f := Own.sO hg h v
theorem FrO.s2 {w : World} {g : Nat} {f : Fr} (h : FrO w g f) (a b : Int) : FrO ((w.setCell ⟨g, 0, none⟩ (.int .i64 a)).setCell ⟨g, 1, none⟩ (.int .i64 b)) g ⟨a, b⟩ := h.set a b
theorem FrO.dT {w : World} {g : Nat} {f : Fr} (h : FrO w g f) : FrO w.drew g f := h
theorem made0 (n : Nat) : (madeCells #[.bool false] n).toList = tab n fun _ => .bool false := by
  rw [toList_madeCells_one]
  simp [tab, List.map_const']
theorem own_ne {g N c T : Nat} (h : g ≠ T) : (Value.slice (some ⟨g, 0, none⟩) N c).ownBlock ≠ some T := fun e => h (by simp only [Value.ownBlock, Option.some.injEq] at e; exact e)

/-! ### what is kept -/
instance (m : Nat → Nat → Int) (a b : List Int) : Decidable (eqC m a b) := by unfold eqC; exact inferInstance
def meB (m : Nat → Nat → Int) (b : List Int) : Fr := if b = [] then ⟨0, 0⟩ else meC m b
def markB (m : Nat → Nat → Int) (R : List (List Int)) (b : List Int) (k : Nat) : Bool := R.any fun c => decide (sumC m c * (b.length : Int) = sumC m b * (c.length : Int)) && decide ((k : Int) ∈ c)
theorem markB_t {m : Nat → Nat → Int} {R : List (List Int)} {b : List Int} {k : Nat} : markB m R b k = true ↔ mkP m R b k := by
  unfold markB mkP eqC
  simp [List.any_eq_true]
/-- the marks with one circuit more. -/
theorem markB_snoc {m : Nat → Nat → Int} {R : List (List Int)} {c : List Int} (hR : ∀ x ∈ R, x ≠ []) (hc : c ≠ []) (k : Nat) : markB m (R ++ [c]) (mnC m (R ++ [c])) k = ((if mnC m R = [] ∨ ltC m c (mnC m R) then false else markB m R (mnC m R) k) || (decide (eqC m c (mnC m (R ++ [c]))) && decide ((k : Int) ∈ c))) := by
  have e : mnC m (R ++ [c]) = pkM m (mnC m R) c := by unfold mnC; rw [List.foldl_append]; rfl
  obtain ⟨h1, h2, h3⟩ := mn_step (c := c) (mnC_spec hR) hR hc
  rw [e]
  rw [Bool.eq_iff_iff, markB_t]
  by_cases hs : mnC m R = [] ∨ ltC m c (mnC m R)
  · rw [if_pos hs, h2 hs k]
    have hp : pkM m (mnC m R) c = c := by unfold pkM; rw [if_pos hs]
    rw [hp]
    simp [eqC_refl m c]
  · rw [if_neg hs, h3 hs k]
    have hp : pkM m (mnC m R) c = mnC m R := by unfold pkM; rw [if_neg hs]
    rw [hp, Bool.or_eq_true, markB_t, Bool.and_eq_true, decide_eq_true_iff, decide_eq_true_iff]

/-- The least mean, the first circuit with it and the marks, in three variables. -/
structure LmV (n : Nat) (m : Nat → Nat → Int) (T1 T2 T3 : Nat) (w : World) (R : List (List Int)) (p : Value × Nat) : Prop where
  cr : ∀ x ∈ R, Cr0 n m x
  o1 : Own w T1 25 [p.1]
  r1 : RowI w 0 p.1 (mnC m R)
  o2 : FrO w T2 (meB m (mnC m R))
  o3 : Own w T3 47 [.slice (some ⟨p.2, 0, none⟩) n n]
  ou : Own w p.2 4 (tab n fun k => .bool (markB m R (mnC m R) k))
def fpL (T1 T2 T3 : Nat) (p : Value × Nat) (q : Nat) : Prop := q = T1 ∨ q = T2 ∨ q = T3 ∨ q = p.2 ∨ p.1.ownBlock = some q

/-- What the choice leaves. -/
structure LmC (n : Nat) (m : Nat → Nat → Int) (T1 T2 T3 : Nat) (w wd : World) (p q : Value × Nat) (b : List Int) (mk : Nat → Bool) : Prop where
  o1 : Own wd T1 25 [q.1]
  r1 : RowI wd 0 q.1 b
  o2 : FrO wd T2 (meC m b)
  o3 : Own wd T3 47 [.slice (some ⟨q.2, 0, none⟩) n n]
  ou : Own wd q.2 4 (tab n fun k => .bool (mk k))
  fr : FrP w.heap.size (fpL T1 T2 T3 p) w wd
  nw : ∀ x, fpL T1 T2 T3 q x → fpL T1 T2 T3 p x ∨ w.heap.size ≤ x

/-- The statement that chooses, store by store. -/
structure Lm5 (n : Nat) (T1 T2 T3 Q u : Nat) (P : Nat → Prop) (w X : World) (a b : Int) (l : List Int) (vg v1 v3 : Value) (f : Fr) (has : Bool) : Prop where
  o1 : Own X T1 25 [v1]
  o2 : FrO X T2 f
  o3 : Own X T3 47 [v3]
  oq : FrO X Q ⟨a, b⟩
  row : RowI X 0 vg l
  fr : FrP w.heap.size P w X
  sz : has = false → X.heap.size = u
  ou : has = true → Own X u 4 (tab n fun _ => .bool false)
/-- Where they lie. -/
structure Lm5L (T1 T2 T3 Q u : Nat) (P : Nat → Prop) (vg : Value) : Prop where
  t : T1 ≠ T2 ∧ T1 ≠ T3 ∧ T2 ≠ T3
  q : Q ≠ T1 ∧ Q ≠ T2 ∧ Q ≠ T3
  u : u ≠ T1 ∧ u ≠ T2 ∧ u ≠ T3
  p : P T1 ∧ P T2 ∧ P T3
  g : vg.ownBlock ≠ some T1 ∧ vg.ownBlock ≠ some T2 ∧ vg.ownBlock ≠ some T3
section
variable {n T1 T2 T3 Q u : Nat} {P : Nat → Prop} {w X : World} {a b : Int} {l : List Int} {vg v1 v3 : Value} {f : Fr} {has : Bool}
theorem Lm5.s2 (h : Lm5 n T1 T2 T3 Q u P w X a b l vg v1 v3 f has) (k : Lm5L T1 T2 T3 Q u P vg) : Lm5 n T1 T2 T3 Q u P w ((X.setCell ⟨T2, 0, none⟩ (.int .i64 a)).setCell ⟨T2, 1, none⟩ (.int .i64 b)) a b l vg v1 v3 ⟨a, b⟩ has :=
  ⟨Own.sO k.t.1 (Own.sO k.t.1 h.o1 _) _, h.o2.s2 a b, Own.sO k.t.2.2.symm (Own.sO k.t.2.2.symm h.o3 _) _, FrO.sO k.q.2.1 (FrO.sO k.q.2.1 h.oq _) _, (h.row.sT k.g.2.1 _).sT k.g.2.1 _, (h.fr.sT k.p.2.1 _).sT k.p.2.1 _, fun e => by simpa using h.sz e, fun e => Own.sO k.u.2.1 (Own.sO k.u.2.1 (h.ou e) _) _⟩
theorem Lm5.s1 (h : Lm5 n T1 T2 T3 Q u P w X a b l vg v1 v3 f has) (k : Lm5L T1 T2 T3 Q u P vg) (v : Value) : Lm5 n T1 T2 T3 Q u P w (X.setCell ⟨T1, 0, none⟩ v) a b l vg v v3 f has :=
  ⟨h.o1.set1 v, FrO.sO k.t.1.symm h.o2 _, Own.sO k.t.2.1.symm h.o3 _, FrO.sO k.q.1 h.oq _, h.row.sT k.g.1 _, h.fr.sT k.p.1 _, fun e => by simpa using h.sz e, fun e => Own.sO k.u.1 (h.ou e) _⟩
theorem Lm5.s3 (h : Lm5 n T1 T2 T3 Q u P w X a b l vg v1 v3 f has) (k : Lm5L T1 T2 T3 Q u P vg) (v : Value) : Lm5 n T1 T2 T3 Q u P w (X.setCell ⟨T3, 0, none⟩ v) a b l vg v1 v f has :=
  ⟨Own.sO k.t.2.1 h.o1 _, FrO.sO k.t.2.2 h.o2 _, h.o3.set1 v, FrO.sO k.q.2.2 h.oq _, h.row.sT k.g.2.2 _, h.fr.sT k.p.2.2 _, fun e => by simpa using h.sz e, fun e => Own.sO k.u.2.2 (h.ou e) _⟩
theorem Lm5.al (h : Lm5 n T1 T2 T3 Q u P w X a b l vg v1 v3 f false) : Lm5 n T1 T2 T3 Q u P w (X.alloc (.cells (madeCells #[.bool false] n) 4)) a b l vg v1 v3 f true :=
  ⟨h.o1.alloc _, h.o2.alloc _, h.o3.alloc _, h.oq.alloc _, h.row.alloc', h.fr.aT _, (fun e => by cases e), fun _ => Own.newHG _ _ _ (made0 n) (h.sz rfl)⟩
end

set_option maxHeartbeats 6400000 in
set_option maxRecDepth 100000 in
theorem leastVis_c (n : Nat) (ad : Option Addr) (cap : Nat) (m : Nat → Nat → Int) (Mb T1 T2 T3 : Nat) (al : Option Addr) (cl : Nat) (l : List Int) (R : List (List Int)) (p : Value × Nat) (w : World) (hr : RdM w ad (toM n m)) (hn : 1 ≤ n ∧ n ≤ 6) (hnum : ∀ a b, a < n → b < n → numB (m a b) = true)
    (hT : T1 ≠ T2 ∧ T1 ≠ T3 ∧ T2 ≠ T3) (km : w.cell? ⟨Mb, 0, none⟩ = some (.slice ad n cap)) (hM : Mb ≠ T1 ∧ Mb ≠ T2 ∧ Mb ≠ T3) (hv : LmV n m T1 T2 T3 w R p) (hw : RowI w 0 (.slice al l.length cl) l) (hfl : ∀ x, fpL T1 T2 T3 p x → (Value.slice al l.length cl).ownBlock ≠ some x) (hp : Cr0 n m l) :
    Calls Tryz.prog 60 #[.slice al l.length cl, .pointer (some ⟨Mb, 0, none⟩), .pointer (some ⟨T1, 0, none⟩), .pointer (some ⟨T2, 0, none⟩), .pointer (some ⟨T3, 0, none⟩)] w fun e w' => e = .returned (.tuple #[]) ∧ ∃ q, LmV n m T1 T2 T3 w' (R ++ [l]) q ∧ FrP w.heap.size (fpL T1 T2 T3 p) w w' ∧ ∀ x, fpL T1 T2 T3 q x → fpL T1 T2 T3 p x ∨ w.heap.size ≤ x := by
  obtain ⟨vf, U⟩ := p
  obtain ⟨hcr, ho1, hr1, ho2, ho3, hou⟩ := hv
  simp only at ho1 hr1 ho3 hou
  have hR : ∀ x ∈ R, x ≠ [] := fun x hx e => by have := (hcr x hx).pth.pos; rw [e] at this; simp at this
  have hlp := hp.pth.pos
  have hln := hp.pth.len
  have hl : l ≠ [] := List.length_pos_iff.1 hlp
  have HMK := Lib.hid (markB_snoc (m := m) hR hl)
  have HE := Lib.hid (show mnC m (R ++ [l]) = pkM m (mnC m R) l by unfold mnC; rw [List.foldl_append]; rfl)
  have HBM := Lib.hid (show mnC m R ≠ [] → mnC m R ∈ R from fun h => by
    rcases mnC_spec (m := m) hR with ⟨g, _⟩ | ⟨g, _⟩
    · exact absurd g h
    · exact g)
  have C1 := Lib.hid (meanOf_c n ad cap m al cl l w hr hw.rdT hn hp hnum)
  have HLT := Lib.hid (fun h => me_lt hp (hcr _ (HBM.out h)))
  have HEQ := Lib.hid (fun h => me_eq hnum hn.2 hp (hcr _ (HBM.out h)))
  have C2 := Lib.hid (fun (h : mnC m R ≠ []) w => compare_c (meC m l) (meC m (mnC m R)) w (meC_frB hnum hn.2 hp) (meC_frB hnum hn.2 (hcr _ (HBM.out h))))
  have C3 := Lib.hid (fun u (h : RowI u 0 (.slice al l.length cl) l) => cloneI_c al cl l u h.rdT hlp (by omega))
  have HP := Lib.hid hp; have HCR := Lib.hid hcr
  have HR1 := Lib.hid hr1; have HO1 := Lib.hid ho1; have HO2 := Lib.hid ho2; have HO3 := Lib.hid ho3; have HOU := Lib.hid hou; have HW := Lib.hid hw; have HFL := Lib.hid hfl
  have hmk := fun (w : World) => run_makeN (P := Tryz.prog) 47 4 (.bool false) 1 1 Tryz.underlying47 (by kernel_rfl) n (by omega) (by omega) w
  obtain ⟨afv, cfv, efv, -⟩ := hr1.shape
  subst efv
  have kF := ho1.cell? (i := 0) rfl
  obtain ⟨N, hN⟩ : ∃ N, l.length = N := ⟨_, rfl⟩
  have HN := Lib.hid hN
  rw [hN] at C1 C3 HW HFL hlp hln ⊢
  have hN6 : N ≤ 6 := by omega
  obtain ⟨F, hF⟩ : ∃ F, meC m l = F := ⟨_, rfl⟩
  have HF := Lib.hid hF
  rw [hF] at C1 C2 HLT HEQ
  obtain ⟨B, hB⟩ : ∃ B, mnC m R = B := ⟨_, rfl⟩
  have HB := Lib.hid hB
  rw [hB] at C2 HLT HEQ HR1 HO1 HFL HO2 HOU HMK HE HBM kF
  obtain ⟨K, hK⟩ : ∃ K, B.length = K := ⟨_, rfl⟩
  have HK := Lib.hid hK
  rw [hK] at kF HR1 HO1 HFL
  obtain ⟨nb, hnb⟩ : ∃ nb, decide (B = [] ∨ ltC m l B) = nb := ⟨_, rfl⟩
  have HNB := Lib.hid hnb
  clear hcr ho1 hr1 ho2 ho3 hou hR hl hp hr hw hfl hnum hN hF hB hK hnb hlp hln
  obtain ⟨a, b⟩ := F
  unfold frV at C1 C2
  simp only at C1 C2
  go_enter Tryz.func60, Tryz.ntmps60
  go_wp2_with fail
  refine C1.out.mono ?_
  rintro e w1 ⟨rfl, hb1⟩
  obtain ⟨Q, hQ⟩ : ∃ Q, w1.heap.size = Q := ⟨_, rfl⟩
  have oQ : FrO (w1.alloc (.cells #[.int .i64 a, .int .i64 b] 30)) Q ⟨a, b⟩ := FrO.new w1 a b hQ.symm
  have hb2 : Below w.heap.size w (w1.alloc (.cells #[.int .i64 a, .int .i64 b] 30)) := bal_alloc hb1
  have hQ2 : w.heap.size ≤ Q := by rw [← hQ]; exact hb1.size
  go_upto_region 1 with fail
  obtain ⟨w2, hw2⟩ : ∃ x, w1.alloc (.cells #[.int .i64 a, .int .i64 b] 30) = x := ⟨_, rfl⟩
  rw [hw2] at oQ hb2 ⊢
  have k2F := bcell' hb2 kF
  have k2M := bcell' hb2 km
  have HO2w := Lib.hid (HO2.out.below hb2)
  obtain ⟨x0, x1⟩ := oQ.at
  clear C1 hb1 hQ hw2 kF km
  go_cut [20] from 12 to 20 (fun s wc => s = .bool nb ∧ Below w2.heap.size w2 wc)
  case first =>
    by_cases hK0 : K = 0
    · subst hK0
      have hnil : B = [] := List.eq_nil_of_length_eq_zero HK.out
      have HNT := Lib.hid (show nb = true by rw [← HNB.out]; exact decide_eq_true (Or.inl hnil))
      clear hnil HNB HK
      go_wp2_with fail
      go_meet
      exact ⟨by rw [HNT.out], Below.refl _ _⟩
    · have g1 : ((K : Int) == 0) = false := beq_eq_false_iff_ne.2 (by omega)
      have hne : B ≠ [] := fun e => hK0 (by rw [← HK.out, e]; rfl)
      have HD := Lib.hid (show decide (cmpF ⟨a, b⟩ (meC m B) < 0) = nb by
        rw [← HNB.out, decide_eq_decide]
        exact (HLT.out hne).trans ⟨fun h => Or.inr h, fun h => h.resolve_left hne⟩)
      have C4 := Lib.hid (C2.out hne)
      have hmb : meB m B = meC m B := by unfold meB; rw [if_neg hne]
      have ho := HO2w.out
      rw [hmb] at ho
      clear hne HNB HLT C2 hmb hK0
      generalize cmpF ⟨a, b⟩ (meC m B) = Z at HD C4
      generalize meC m B = G at C4 ho
      obtain ⟨c, d⟩ := G
      simp only at C4
      obtain ⟨y0, y1⟩ := ho.at
      obtain ⟨gz, hgz⟩ : ∃ gz, decide (Z < 0) = gz := ⟨_, rfl⟩
      have HGZ := Lib.hid (hgz.symm.trans HD.out)
      clear HD ho
      go_wp2_with fail
      refine (C4.out _).mono ?_
      rintro e w3 ⟨rfl, hb3⟩
      go_wp2_with fail
      go_meet
      exact ⟨by rw [HGZ.out], hb3⟩
  case rest =>
    obtain ⟨rfl, hbc⟩ := hcut
    obtain ⟨w3, rfl⟩ : ∃ x : World, x = wc := ⟨_, rfl⟩
    go_upto_if 20 with fail
    have hb3 := ball hb2 hbc
    have oQ3 := oQ.below hbc
    have k3M := bcell' hbc k2M
    clear k2F k2M x0 x1 hbc hb2 oQ C2 HLT HO2w
    have P1 := Lib.hid (HO1.out.belowAll hb3); have P2 := Lib.hid (HO2.out.below hb3); have P3 := Lib.hid (HO3.out.belowAll hb3); have PU := Lib.hid (HOU.out.belowAll hb3); have PR := Lib.hid (HR1.out.below hb3); have PW := Lib.hid (HW.out.below hb3)
    have PF := Lib.hid (show FrP w.heap.size (fpL T1 T2 T3 (.slice afv K cfv, U)) w w3 from FrP.of_below hb3 (Nat.le_refl _))
    have HPT := Lib.hid (show nb = true → pkM m B l = l from fun e => by unfold pkM; rw [if_pos (of_decide_eq_true (HNB.out.trans e))])
    have HPN := Lib.hid (show nb = false → pkM m B l = B ∧ B ≠ [] ∧ ¬ ltC m l B from fun e => by
      have h := of_decide_eq_false (HNB.out.trans e)
      exact ⟨by unfold pkM; rw [if_neg h], fun g => h (Or.inl g), fun g => h (Or.inr g)⟩)
    go_cut [] from 21 to 26 (fun wd => ∃ q, LmC n m T1 T2 T3 w wd (.slice afv K cfv, U) q (pkM m B l) (fun k => if nb = true then false else markB m R B k) ∧ FrO wd Q ⟨a, b⟩)
    case first =>
      cases nb
      · obtain ⟨hp1, hp2, -⟩ := HPN.out rfl
        have HP1 := Lib.hid hp1
        have HP2 := Lib.hid (show meB m B = meC m B by unfold meB; rw [if_neg hp2])
        clear hp1 hp2
        go_wp2_with fail
        go_meet
        exact ⟨(.slice afv K cfv, U), ⟨P1.out, by rw [HP1.out]; exact PR.out, by rw [HP1.out, ← HP2.out]; exact P2.out, P3.out, by simpa using PU.out, PF.out, fun x hx => Or.inl hx⟩, oQ3⟩
      · obtain ⟨hT1, hT2, hT3⟩ := hT
        obtain ⟨hM1, hM2, hM3⟩ := hM
        have hT4 := hT1.symm; have hT5 := hT2.symm; have hT6 := hT3.symm
        have hq1 : Q ≠ T1 := fun e => by have := HO1.out.lt; omega
        have hq2 : Q ≠ T2 := fun e => by have := HO2.out.lt; omega
        have hq3 : Q ≠ T3 := fun e => by have := HO3.out.lt; omega
        obtain ⟨x0, x1⟩ := oQ3.at
        have y1 := P1.out.cell? (i := 0) rfl
        have f1 := P1.out.frozen 0
        have y3 := P3.out.cell? (i := 0) rfl
        have f3 := P3.out.frozen 0
        obtain ⟨G, hG⟩ : ∃ G, meB m B = G := ⟨_, rfl⟩
        rw [hG] at P2
        obtain ⟨c, d⟩ := G
        obtain ⟨y20, y21⟩ := P2.out.at
        obtain ⟨f20, f21⟩ := P2.out.fr
        go_wp2_with fail
        go_region_held3 (fun w' => w'.cell? ⟨Q, 0, none⟩ = some (.int .i64 a) ∧ w'.cell? ⟨Q, 1, none⟩ = some (.int .i64 b) ∧ w'.cell? ⟨Mb, 0, none⟩ = some (.slice ad n cap))
          (with_reducible repeat' (first | apply And.intro | assumption | apply cell_alloc' | apply cell_drew' | (refine cell_set' (by assumption) ?_)))
          (first
            | (go_at_call 63; (with_reducible refine (C3.out _ (by first | exact PW.out | exact PW.out.dT | exact PW.out.alloc' | exact PW.out.alloc'.dT | exact PW.out.dT.alloc')).mono ?_); rintro e W1 ⟨g, cg, rfl, hrow, hg, hbW⟩; have hbx := ball (show Below w3.heap.size w3 _ by repeat (first | exact Below.refl _ _ | apply Below.drew | apply bal_alloc)) hbW; have m1 := bcell' hbx x0; have m2 := bcell' hbx x1; have m3 := bcell' hbx k3M; have m4 := bcell' hbx y1; have m5 := bcell' hbx y3; have m6 := bcell' hbx y20; have m7 := bcell' hbx y21; have m8 := (P1.out.belowAll hbx).frozen 0; have m9 := (P3.out.belowAll hbx).frozen 0; obtain ⟨m10, m11⟩ := (P2.out.below hbx).fr; have m12 := fun o => cell_alloc' (o := o) m4; have m13 := fun o => cell_alloc' (o := o) m5; have m14 := fun o => cell_alloc' (o := o) m6; have m15 := fun o => cell_alloc' (o := o) m7; have m16 := fun o => ((P1.out.belowAll hbx).alloc o).frozen 0; have m17 := fun o => ((P3.out.belowAll hbx).alloc o).frozen 0; have m18 := fun o => ((P2.out.below hbx).alloc o).fr.1; have m19 := fun o => ((P2.out.below hbx).alloc o).fr.2; have z1 := ((P1.out.belowAll hbx).setOther (a := ⟨T2, 0, none⟩) hT1 (.int .i64 a)).setOther (a := ⟨T2, 1, none⟩) hT1 (.int .i64 b); have z3 := ((P3.out.belowAll hbx).setOther (a := ⟨T2, 0, none⟩) hT6 (.int .i64 a)).setOther (a := ⟨T2, 1, none⟩) hT6 (.int .i64 b); have z4 := z3.setOther (a := ⟨T1, 0, none⟩) hT5 (.slice (some ⟨g, 0, none⟩) N cg); have m20 := fun o => (z1.alloc o).cell? (i := 0) rfl; have m21 := fun o => (z1.alloc o).frozen 0; have m22 := fun o => (z3.alloc o).cell? (i := 0) rfl; have m23 := fun o => (z3.alloc o).frozen 0; have m24 := fun o => (z4.alloc o).cell? (i := 0) rfl; have m25 := fun o => (z4.alloc o).frozen 0; clear z1 z3 z4)
            | fail)
        all_goals go_wp2_with fail
        all_goals go_meet
        all_goals
          have hgw : w.heap.size ≤ g := Nat.le_trans hb3.size (Nat.le_trans (by simp) hg)
          have hWw : w.heap.size ≤ W1.heap.size := Nat.le_trans hb3.size hbx.size
          have l1 := HO1.out.lt
          have l2 := HO2.out.lt
          have l3 := HO3.out.lt
          have hb3s := hb3.size
          have LL := fun u (hu : w.heap.size ≤ u) => (show Lm5L T1 T2 T3 Q u (fpL T1 T2 T3 (.slice afv K cfv, U)) (.slice (some ⟨g, 0, none⟩) N cg) from ⟨⟨hT1, hT2, hT3⟩, ⟨hq1, hq2, hq3⟩, ⟨by omega, by omega, by omega⟩, ⟨Or.inl rfl, Or.inr (Or.inl rfl), Or.inr (Or.inr (Or.inl rfl))⟩, ⟨own_ne (by omega), own_ne (by omega), own_ne (by omega)⟩⟩)
          have L5 := fun u has (h1 : has = false → W1.heap.size = u) (h2 : has = true → Own W1 u 4 (tab n fun _ => .bool false)) => (show Lm5 n T1 T2 T3 Q u (fpL T1 T2 T3 (.slice afv K cfv, U)) w W1 a b l (.slice (some ⟨g, 0, none⟩) N cg) _ _ _ has from ⟨P1.out.belowAll hbx, P2.out.below hbx, P3.out.belowAll hbx, oQ3.below hbx, hrow.low (Nat.zero_le _), PF.out.bT hbx, h1, h2⟩)
          have FIN : ∀ u X v1 f, w.heap.size ≤ u → v1 = Value.slice (some ⟨g, 0, none⟩) N cg → f = (⟨a, b⟩ : Fr) → Lm5 n T1 T2 T3 Q u (fpL T1 T2 T3 (.slice afv K cfv, U)) w X a b l (.slice (some ⟨g, 0, none⟩) N cg) v1 (.slice (some ⟨u, 0, none⟩) n n) f true → ∃ q, LmC n m T1 T2 T3 w X (.slice afv K cfv, U) q (pkM m B l) (fun k => if True then false else markB m R B k) ∧ FrO X Q ⟨a, b⟩ := fun u X v1 f hu e1 e2 h => by
            subst e1; subst e2
            rw [HPT.out (by first | rfl | trivial)]
            refine ⟨(.slice (some ⟨g, 0, none⟩) N cg, u), ⟨h.o1, h.row, by rw [HF.out]; exact h.o2, h.o3, by simpa using h.ou rfl, h.fr, fun x hx => ?_⟩, h.oq⟩
            rcases hx with e | e | e | e | e
            · exact Or.inl (Or.inl e)
            · exact Or.inl (Or.inr (Or.inl e))
            · exact Or.inl (Or.inr (Or.inr (Or.inl e)))
            · exact Or.inr (by simp only at e; omega)
            · exact Or.inr (by simp only [Value.ownBlock, Option.some.injEq] at e; omega)
          have KW := LL W1.heap.size hWw
          have K3 := LL w3.heap.size hb3s
          have L5f := L5 W1.heap.size false (fun _ => rfl) (fun e => by cases e)
          have rr : (⟨a, b⟩ : Fr) = ⟨a, b⟩ := rfl
        · with_reducible exact FIN _ _ _ _ hWw rfl rr (((L5f.al.s2 KW).s1 KW _).s3 KW _)
        · with_reducible exact FIN _ _ _ _ hWw rfl rr (((L5f.s2 KW).al.s1 KW _).s3 KW _)
        · with_reducible exact FIN _ _ _ _ hWw rfl rr (((L5f.s2 KW).s1 KW _).al.s3 KW _)
        · have L5t := L5 w3.heap.size true (fun e => by cases e) (fun _ => Own.belowAll (Own.drew (Own.newHG _ _ _ (made0 n) rfl)) hbW)
          with_reducible exact FIN _ _ _ _ hb3s rfl rr (((L5t.s2 K3).s1 K3 _).s3 K3 _)
    case rest =>
      obtain ⟨q, hlc, oQd⟩ := hcut
      obtain ⟨B2, hB2⟩ : ∃ x, pkM m B l = x := ⟨_, rfl⟩
      have HEQ2 := Lib.hid (show ((⟨a, b⟩ : Fr) = meC m B2 ↔ eqC m l B2) by
        rw [← hB2]
        cases nb
        · obtain ⟨g1, g2, g3⟩ := HPN.out rfl
          rw [g1]
          exact HEQ.out g2
        · rw [HPT.out rfl, HF.out]
          exact ⟨fun _ => eqC_refl m l, fun _ => rfl⟩)
      rw [hB2] at hlc HE
      have HLC := Lib.hid hlc
      have HB2N := Lib.hid (show meB m (mnC m (R ++ [l])) = meC m B2 by
        rw [HE.out]
        unfold meB
        rw [if_neg (fun e => by
          have h2 := HP.out.pth.pos
          rw [← hB2] at e
          unfold pkM at e
          by_cases h : B = [] ∨ ltC m l B
          · rw [if_pos h] at e
            rw [e] at h2
            simp at h2
          · rw [if_neg h] at e
            exact h (Or.inl e))])
      have HFIN := Lib.hid (show ∀ k : Nat, markB m (R ++ [l]) (mnC m (R ++ [l])) k = ((if nb = true then false else markB m R B k) || (decide (eqC m l B2) && decide ((k : Int) ∈ l))) from fun k => by
        rw [HMK.out k, HE.out]
        congr 1
        rw [← HNB.out]
        by_cases h : B = [] ∨ ltC m l B
        · rw [if_pos h, if_pos (decide_eq_true h)]
        · rw [if_neg h, if_neg (by simpa using h)])
      have HCR2 := Lib.hid (show ∀ x ∈ R ++ [l], Cr0 n m x from fun x hx => by
        rcases List.mem_append.1 hx with hx | hx
        · exact HCR.out x hx
        · rw [List.mem_singleton.1 hx]; exact HP.out)
      have QW := Lib.hid (HW.out.of_blk (fun x hx => hlc.fr.block x (World.ownsRow.lt HW.out x hx).2 (fun e => HFL.out x e hx)))
      have y3 := hlc.o3.cell? (i := 0) rfl
      have ho2 := hlc.o2
      clear hB2 HEQ HPT HPN hlc HMK P1 P2 P3 PU PR oQ3 k3M hb3
      obtain ⟨G, hG⟩ : ∃ G, meC m B2 = G := ⟨_, rfl⟩
      rw [hG] at HEQ2 ho2
      obtain ⟨c, d⟩ := G
      obtain ⟨x0, x1⟩ := oQd.at
      obtain ⟨y0, y1⟩ := ho2.at
      clear hG ho2
      obtain ⟨vq, u⟩ := q
      by_cases hq : a = c ∧ b = d
      · obtain ⟨rfl, rfl⟩ := hq
        have HQE := Lib.hid (decide_eq_true (HEQ2.out.1 rfl))
        have hune : T3 ≠ u := HLC.out.o3.ne_ty HLC.out.ou (by decide)
        have hlu : (Value.slice al N cl).ownBlock ≠ some u := fun e => by
          rcases HLC.out.nw u (Or.inr (Or.inr (Or.inr (Or.inl rfl)))) with g | g
          · exact HFL.out u g e
          · have := (World.ownsRow.lt HW.out u e).2
            omega
        have HUW := Lib.hid hlu
        clear HEQ2 hlu
        go_wp2_with fail
        go_loopw [32] (fun i wr => ∃ t : Nat, t ≤ N ∧ i = .int .i64 t ∧ Own wr u 4 (tab n fun k => .bool ((if nb = true then false else markB m R B k) || decide ((k : Int) ∈ l.take t))) ∧ Chg u wc wr) (fun i _ => N - (intOf i).toNat)
        case atStart => exact ⟨0, Nat.zero_le _, rfl, by simpa using HLC.out.ou, Chg.refl _ _⟩
        case round =>
          obtain ⟨wE, rfl⟩ : ∃ x : World, x = wr := ⟨_, rfl⟩
          obtain ⟨t, ht, rfl, hou, hch⟩ := hrel
          have y4 := (HLC.out.o3.chg hch hune).cell? (i := 0) rfl
          have QWE := Lib.hid (QW.out.of_blk (fun x hx => hch.block x (World.ownsRow.lt QW.out x hx).2 (fun e => HUW.out (by rw [← e]; exact hx))))
          have HCH := Lib.hid hch
          by_cases hlt : t < N
          case pos =>
            obtain ⟨bp, op, rfl, hbp, q1⟩ := QWE.out.rdT t (by rw [HN.out]; exact hlt)
            obtain ⟨e1, e2⟩ := vt_at HP.out.pth.vt (t := t) (by rw [HN.out]; exact hlt)
            rw [e1] at q1
            have HTK := Lib.hid (show l.take (t + 1) = l.take t ++ [((vx l t : Nat) : Int)] by
              have hl2 : t < l.length := by rw [HN.out]; exact hlt
              rw [List.take_succ_eq_append_getElem hl2, ← e1, List.getD_eq_getElem?_getD, List.getElem?_eq_getElem hl2, Option.getD_some])
            generalize vx l t = v at q1 e2 HTK
            have k1 := hou.cell? (tab_get e2)
            have f1 := hou.frozen v
            have HSET := Lib.hid (show Own (wE.setCell ⟨u, v, none⟩ (.bool true)) u 4 (tab n fun k => .bool ((if nb = true then false else markB m R B k) || decide ((k : Int) ∈ l.take (t + 1)))) from (hou.set v (.bool true)).congr (by
              rw [tab_set]
              refine tab_congr fun k hk => ?_
              rw [HTK.out]
              by_cases e : k = v
              · subst e; simp
              · rw [if_neg e]
                have : ¬ (k : Int) = (v : Int) := by omega
                simp [this]))
            have HC2 := Lib.hid (hch.trans (Chg.set u v wE (.bool true)))
            have z1 : (0 : Int) ≤ (v : Int) := by omega
            have z2 : (v : Int) < (n : Int) := by omega
            have z3 : (0 : Int) ≤ (t : Int) := by omega
            have z4 : (t : Int) < (N : Int) := by omega
            generalize hbb : ((if nb = true then false else markB m R B v) || decide ((v : Int) ∈ l.take t)) = bb at k1
            clear hou hch e1 hbb
            go_wp2_with fail
            go_roundw
            case rel => exact ⟨t + 1, by omega, by go_num, HSET.out, HC2.out⟩
            case measure => simp [intOf]; omega
          case neg =>
            obtain rfl : t = N := by omega
            have HOUE := Lib.hid (show Own wE u 4 (tab n fun k => .bool (markB m (R ++ [l]) (mnC m (R ++ [l])) k)) from hou.congr (tab_congr fun k _ => by
              rw [HFIN.out k, HQE.out, Bool.true_and, List.take_of_length_le (by rw [HN.out]; exact Nat.le_refl _)]))
            clear hou hch
            go_wp2_with fail
            go_end0
            refine ⟨rfl, vq, u, ⟨HCR2.out, HLC.out.o1.chg HCH.out (HLC.out.o1.ne_ty HLC.out.ou (by decide)), ?_, ?_, HLC.out.o3.chg HCH.out hune, HOUE.out⟩, ?_, ?_⟩
            · rw [HE.out]; exact HLC.out.r1.of_blk (fun x hx => HCH.out.block x (World.ownsRow.lt HLC.out.r1 x hx).2 (fun e => row_ne_ty HLC.out.r1 HLC.out.ou (by decide) (by rw [hx, e])))
            · rw [HB2N.out]; exact FrO.chg HLC.out.o2 HCH.out (Own.ne_ty HLC.out.o2 HLC.out.ou (by decide))
            · rw [HB.out, HK.out]
              refine HLC.out.fr.trans ⟨HCH.out.os, HCH.out.tape, HCH.out.output, HCH.out.size, fun x hx hn => HCH.out.block x (by have := HLC.out.fr.size; omega) (fun e => hn ?_)⟩
              rcases HLC.out.nw u (Or.inr (Or.inr (Or.inr (Or.inl rfl)))) with g | g
              · rw [e]; exact g
              · omega
            · rw [HB.out, HK.out]; exact HLC.out.nw
      · have HQE := Lib.hid (show decide (eqC m l B2) = false from decide_eq_false (fun h => hq (by
          have := HEQ2.out.2 h
          injection this with g1 g2
          exact ⟨g1, g2⟩)))
        have HEND := Lib.hid (show LmV n m T1 T2 T3 wc (R ++ [l]) (vq, u) ∧ FrP w.heap.size (fpL T1 T2 T3 (.slice afv (mnC m R).length cfv, U)) w wc ∧ ∀ x, fpL T1 T2 T3 (vq, u) x → fpL T1 T2 T3 (.slice afv (mnC m R).length cfv, U) x ∨ w.heap.size ≤ x by
          rw [HB.out, HK.out]
          refine ⟨⟨HCR2.out, HLC.out.o1, by rw [HE.out]; exact HLC.out.r1, by rw [HB2N.out]; exact HLC.out.o2, HLC.out.o3, HLC.out.ou.congr (tab_congr fun k _ => ?_)⟩, HLC.out.fr, HLC.out.nw⟩
          rw [HFIN.out k, HQE.out, Bool.false_and, Bool.or_false])
        clear HEQ2
        by_cases h1 : a = c
        · subst h1
          have g1 : (b == d) = false := beq_eq_false_iff_ne.2 (fun e => hq ⟨rfl, e⟩)
          clear hq
          go_wp2_with fail
          go_end0
          exact ⟨rfl, vq, u, HEND.out⟩
        · have g1 : (a == c) = false := beq_eq_false_iff_ne.2 h1
          clear hq
          go_wp2_with fail
          go_end0
          exact ⟨rfl, vq, u, HEND.out⟩
end Go.Proofs.YtjkfighooijblaaGreat
