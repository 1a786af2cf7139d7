/-
  Toppling: what it ends in; the reference's piTopple, the program's topple.
-/
import Derived.Test.YtopkohkilmlpaaaStabR
import Derived.Test.YtopkohkilmlpaaaChipU
import Derived.Deep.LoopGhost
import Derived.Deep.DeepCutAuto
namespace Go.Proofs.Ytopkohkilmlpaaa
open Go.RowKit

/-- A stable pile and how often each vertex toppled. -/
def TopEnd (N : Nat) (bet : Nat → Nat → Int) (val : Nat → Int) (z : Nat) (d : Nat → Int) (r : List Int × List Int) : Prop :=
  ∃ c s, r = (tab N c, tab N s) ∧ TS N bet val z d c s ∧ (∀ j, j < N → j ≠ z → c j < val j) ∧ c z = 0
theorem TopEnd.unique {N : Nat} {bet : Nat → Nat → Int} {val : Nat → Int} {z : Nat} {d : Nat → Int} {r r' : List Int × List Int} (h : TopEnd N bet val z d r) (h' : TopEnd N bet val z d r') : r = r' := by
  obtain ⟨c, s, rfl, ht, hs, hz⟩ := h
  obtain ⟨c', s', rfl, ht', hs', hz'⟩ := h'
  obtain ⟨e1, e2⟩ := ht.unique ht' hs hs'
  congr 1
  · refine tab_congr fun j hj => ?_
    by_cases e : j = z
    · subst e; rw [hz, hz']
    · exact e2 j hj e
  · exact tab_congr e1
noncomputable def topR (N : Nat) (bet : Nat → Nat → Int) (val : Nat → Int) (z : Nat) (d : Nat → Int) : List Int × List Int := Classical.epsilon (TopEnd N bet val z d)
theorem TopEnd.eq {N : Nat} {bet : Nat → Nat → Int} {val : Nat → Int} {z : Nat} {d : Nat → Int} {r : List Int × List Int} (h : TopEnd N bet val z d r) : topR N bet val z d = r := TopEnd.unique (Classical.epsilon_spec ⟨r, h⟩) h
theorem TopEnd.of {N : Nat} {bet : Nat → Nat → Int} {val : Nat → Int} {z : Nat} {d c s : Nat → Int} (h : TS N bet val z d c s) (hs : ∀ j, j < N → j ≠ z → c j < val j) (hz : c z = 0) : topR N bet val z d = (tab N c, tab N s) := TopEnd.eq ⟨c, s, rfl, h, hs, hz⟩

theorem Next.congr {N : Nat} {val : Nat → Int} {z : Nat} {c c' : Nat → Int} {r : Int} (h : Next N val z c r) (e : ∀ j, j < N → c j = c' j) : Next N val z c' r := by
  rcases h with ⟨v, h1, h2, h3, h4⟩ | ⟨h1, h2⟩
  · exact Or.inl ⟨v, h1, h2, h3, by rw [← e v h2]; exact h4⟩
  · exact Or.inr ⟨h1, fun j hj hjz => by rw [← e j hj]; exact h2 j hj hjz⟩
theorem TS.congr {N : Nat} {bet : Nat → Nat → Int} {val : Nat → Int} {z : Nat} {d c c' s : Nat → Int} (h : TS N bet val z d c s) (e : ∀ j, j < N → c j = c' j) : TS N bet val z d c' s :=
  ⟨h.nn, h.z0, fun j hj hjz => by rw [← e j hj]; exact h.eq j hj hjz, fun j hj => by rw [← e j hj]; exact h.lo j hj, by rw [← sm_congr e]; exact h.sum, h.least⟩
theorem accF_one {N v : Nat} (hv : v < N) (L : Nat → Nat → Int) (j : Nat) : accF (fun u => (tab N (setF [(v : Int)])).getD u 0) L N j = L v j := by
  have h : ∀ k, k ≤ N → accF (fun u => (tab N (setF [(v : Int)])).getD u 0) L k j = if v < k then L v j else 0 := by
    intro k
    induction k with
    | zero => intro _; rw [accF_zero, if_neg (by omega)]
    | succ k ih =>
      intro hk
      rw [accF_succ, ih (by omega), tab_getD (by omega)]
      by_cases e : k = v
      · subst e
        have : setF [(k : Int)] k = 1 := by simp [setF]
        rw [this, if_neg (Nat.lt_irrefl _), if_pos (by omega)]; omega
      · have : setF [(v : Int)] k = 0 := by simp [setF]; omega
        rw [this]
        by_cases e2 : v < k
        · rw [if_pos e2, if_pos (by omega)]; omega
        · rw [if_neg e2, if_neg (by omega)]; omega
  rw [h N (Nat.le_refl _), if_pos hv]
theorem wt_le {N : Nat} {f d : Nat → Int} {M : Int} (hf : ∀ v, f v ≤ M) (hd : ∀ j, j < N → 0 ≤ d j) : wt N f d ≤ M * sm N d := by
  unfold wt
  rw [← sm_mul]
  exact sm_mono fun j hj => Int.mul_le_mul_of_nonneg_right (hf j) (hd j hj)

def RetTop (r : List Int × List Int) (w : World) (e : Ending) (w' : World) : Prop := ∃ v u, e = .returned (.tuple #[v, u]) ∧ ResI w' w.heap.size 3 v r.1 ∧ ResI w' w.heap.size 3 u r.2 ∧ (∀ q, v.ownBlock = some q → u.ownBlock ≠ some q) ∧ Below w.heap.size w w'

/-- The reference's state on its way. -/
structure SpT (ls : List Lk) (N z : Nat) (d f : Nat → Int) (w wr : World) (gt k : Nat) (v : Value) (r : Int) (c s : Nat → Int) (g : Nat) : Prop where
  own : Own wr g 3 (ints (tab N c))
  lo : w.heap.size ≤ g
  ne : g ≠ gt
  cnt : Own wr gt 3 (ints (tab N s))
  ts : TS N (betF ls) (valF ls) z d c s
  nx : Next N (valF ls) z c r
  m : (wt N f c).toNat ≤ k
  bel : Below w.heap.size w wr
  form : ∃ cap, v = .slice (some ⟨g, 0, none⟩) N cap
  cz : c z = 0

set_option maxHeartbeats 3200000 in
set_option maxRecDepth 100000 in
theorem piTopple_any (N : Nat) (adl : Option Addr) (capl : Nat) (ls : List Lk) (z : Nat) (a : Addr) (cap : Nat) (d : List Int) (w : World) (hl : ls.length ≤ 1048576) (hrl : RdL w adl ls) (hg : goodL N ls = true) (hc : connB N ls = true) (hz : z < N) (hdl : d.length = N) (hr : RdI w (some a) d) (hd : ∀ j, j < N → 0 ≤ fo d j ∧ fo d j ≤ 1000) (hdz : fo d z = 0) :
    Calls Try.prog 56 #[.int .i64 N, .slice adl ls.length capl, .int .i64 z, .slice (some a) N cap] w (RetTop (topR N (betF ls) (valF ls) z (fo d)) w) := by
  have hgn := good_n hg
  obtain ⟨f, hf⟩ := pot_exists rfl hg hc hz
  have hGr := gr_of (N := N) rfl hg
  have hsm : sm N (fo d) ≤ 8000 := by
    have := sm_mono (N := N) (f := fo d) (g := fun _ => 1000) (fun j hj => (hd j hj).2)
    rw [sm_const] at this
    omega
  have hwd := wt_le (N := N) (f := f) (d := fo d) (M := 100000000000) hf.up (fun j hj => (hd j hj).1)
  have hwt : ∀ c s, TS N (betF ls) (valF ls) z (fo d) c s → ∀ v, v < N → 0 ≤ s v ∧ s v ≤ 1000000000000000 := fun c s h v hv => by
    have := h.script_le hf hv
    exact ⟨h.nn v hv, by omega⟩
  have hcb : ∀ c s, TS N (betF ls) (valF ls) z (fo d) c s → ∀ v, v < N → 0 ≤ c v ∧ c v ≤ 8000 := fun c s h v hv => by
    have := h.bound hv
    omega
  have HF := Lib.hid hf; clear hf
  have HGR := Lib.hid hGr; clear hGr
  have HWT := Lib.hid hwt; clear hwt
  have HCB := Lib.hid hcb; clear hcb hwd hsm
  have HG := Lib.hid hg; clear hg
  have HDL := Lib.hid hdl; clear hdl
  have hd0 := Lib.hid (fun j hj => (hd j hj).1); clear hd
  have hmk := run_makeN (P := Try.prog) 23 3 (.int .i64 0) 1 8 Try.underlying23 Try.infoI N (by omega) (by omega)
  simp only [Value.cells, Nat.mul_one] at hmk
  go_enter Try.func56, Try.ntmps56
  go_wp2_with fail
  have hown := l1Own_any a cap d w (by rw [HDL.out]; omega) hr
  rw [HDL.out] at hown
  refine hown.mono ?_
  clear hown
  rintro e w1 ⟨v1, rfl, hv1, hb1⟩
  rcases hv1 with ⟨_, h0⟩ | ⟨g1, cap1, e', hg1, ho1⟩
  · have := HDL.out; rw [h0] at this; simp at this; omega
  rw [HDL.out] at e'
  subst e'
  have hdt : d = tab N (fo d) := by
    have := tab_self d 0
    rw [HDL.out] at this
    exact this.symm
  have ho2 := ho1.congr (cs' := ints (tab N (fo d))) (by rw [← hdt])
  clear hdt ho1
  have hg1l := ho2.lt
  have HO := Lib.hid (ho2.alloc (.cells (madeCells #[.int .i64 0] N) 3)); clear ho2
  have hb2 := hb1.alloc hb1.size (.cells (madeCells #[.int .i64 0] N) 3)
  have HT := Lib.hid ((Own.newA w1 _ 3 (madeInts N)))
  have hsz := hb1.size
  go_wp2_with fail
  refine (piNext_any N adl capl ls z (some ⟨g1, 0, none⟩) cap1 (tab N (fo d)) _ hl (hrl.below hb2) HG.out (by rw [tab_length]; simp) HO.out.rd).mono ?_
  rw [Int.toNat_natCast]
  rintro e w2 ⟨⟨r, rfl, hnx⟩, hb3⟩
  have hnx2 := hnx.congr (c' := fo d) (fun j hj => fo_tab hj)
  have hst : SpT ls N z (fo d) f w w2 w1.heap.size (wt N f (fo d)).toNat (.slice (some ⟨g1, 0, none⟩) N cap1) r (fo d) (fun _ => 0) g1 :=
    ⟨HO.out.belowAll hb3, hg1, by omega, HT.out.belowAll hb3, TS.start hd0.out, hnx2, Nat.le_refl _, ball hb2 hb3, ⟨cap1, rfl⟩, hdz⟩
  have HST := Lib.hid hst; clear hst hnx hnx2 hb3 hb2
  go_wp2_with fail
  go_loopg [10, 12] (wt N f (fo d)).toNat (fun k v q wr => ∃ r c s g, q = .int .i64 r ∧ SpT ls N z (fo d) f w wr w1.heap.size k v r c s g)
  case atStart => exact ⟨r, _, _, g1, rfl, HST.out⟩
  case round =>
    obtain ⟨r, c, s, g, rfl, hS⟩ := hrel
    obtain ⟨cap3, rfl⟩ := hS.form
    have HS := Lib.hid hS; clear hS
    by_cases h0 : r < 0
    case pos =>
      go_wp2_with fail
      go_ret2
      have hs : ∀ j, j < N → j ≠ z → c j < valF ls j := by
        rcases HS.out.nx with ⟨v, h, _⟩ | ⟨_, h⟩
        · omega
        · exact h
      rw [TopEnd.of HS.out.ts hs HS.out.cz]
      refine ⟨_, _, rfl, Or.inr ⟨g, cap3, by rw [tab_length]; rfl, HS.out.lo, HS.out.own⟩, Or.inr ⟨w1.heap.size, N, by rw [tab_length]; rfl, hsz, HS.out.cnt⟩, fun q hq hq2 => ?_, HS.out.bel⟩
      simp [Value.ownBlock] at hq hq2
      exact HS.out.ne (by omega)
    case neg =>
      obtain ⟨v, rfl, hv, hvz, hcv⟩ : ∃ v : Nat, r = v ∧ v < N ∧ v ≠ z ∧ valF ls v ≤ c v := by
        rcases HS.out.nx with h | ⟨h, _⟩
        · exact h
        · omega
      have hb0 : Below wr.heap.size wr (wr.alloc (.cells #[.int .i64 v] 3)) := (Below.refl _ _).alloc (Nat.le_refl _) _
      have HSET := Lib.hid (Own.newA wr #[.int .i64 v] 3 rfl : Own _ _ _ (ints [(v : Int)])).rd
      have HV := Lib.hid hcv; clear hcv
      have hcbv := HCB.out c s HS.out.ts
      have HCC := Lib.hid hcbv; clear hcbv
      go_wp2_with fail
      refine (chSet_any N ⟨wr.heap.size, 0, none⟩ 1 [(v : Int)] _ (by omega) (by simp) HSET.out (fun j hj => by simp at hj; subst hj; simp; omega)).mono ?_
      rintro e w3 ⟨gs, rfl, hgs, hos, hb3⟩
      have hbb := ball hb0 hb3
      have HOS := Lib.hid hos; clear hos
      have HS3 := Lib.hid (HS.out.own.belowAll hbb).rd
      go_wp2_with fail
      have hfire := chFire_any (N : Int) adl capl ls ⟨g, 0, none⟩ cap3 (tab N c) ⟨gs, 0, none⟩ N (tab N (setF [(v : Int)])) w3 hl (hrl.below (ball HS.out.bel hbb)) HG.out (by rw [tab_length]; simp) (by rw [tab_length]; simp) HS3.out HOS.out.rd (fun j hj => by
        rw [Int.toNat_natCast] at hj
        rw [tab_getD hj]
        have := HCC.out j hj
        omega) (fun u hu => setList_bounds N [(v : Int)] u (by simpa using hu))
      rw [Int.toNat_natCast] at hfire
      refine hfire.mono ?_
      clear hfire
      rintro e w4 ⟨vv, rfl, hv4, hb4⟩
      rcases hv4 with ⟨_, h0'⟩ | ⟨g4, cap4, e4, hg4, ho4⟩
      · have := congrArg List.length h0'
        rw [tab_length] at this
        simp at this
        omega
      rw [tab_length] at e4
      subst e4
      have ho5 := ho4.congr (cs' := ints (tab N fun j => c j - 1 * lapE (betF ls) (valF ls) v j)) (by
        congr 1
        refine tab_congr fun j hj => ?_
        rw [tab_getD hj, accF_one hv, Int.one_mul]
        rfl)
      clear ho4
      have hbx := ball hbb hb4
      have cT0 := HS.out.cnt.belowAll hbx
      have hne4 : g4 ≠ w1.heap.size := by
        have := HS.out.cnt.lt
        have := hbb.size
        omega
      have hts := (HS.out.ts.topple HGR.out hv hvz HV.out).clear hz
      have hdn := wt_down (c := c) HF.out hv hvz
      rw [← TS.wt_clear (c := fun j => c j - 1 * lapE (betF ls) (valF ls) v j) HF.out] at hdn
      have hwn := hts.wt_nn HF.out
      have hm := HS.out.m
      have f4 := ho5.frozen z
      have c4 := ho5.cell? (i := z) (ints_get (by rw [tab_length]; exact hz))
      have o6 := ho5.set z (.int .i64 0)
      rw [ints_set, tab_set] at o6
      have cT := cT0.setOther (a := ⟨g4, z, none⟩) (Ne.symm hne4) (.int .i64 0)
      have t0 := cT.cell? (i := v) (ints_get (by rw [tab_length]; exact hv))
      rw [tab_getD hv] at t0
      have t1 := cT.frozen v
      have o7 := o6.setOther (a := ⟨w1.heap.size, v, none⟩) hne4 (.int .i64 (s v + 1))
      have cU := cT.set v (.int .i64 (s v + 1))
      rw [ints_set, tab_set] at cU
      have hsv := HWT.out c s HS.out.ts v hv
      have hb5 : Below w.heap.size w ((w4.setCell ⟨g4, z, none⟩ (.int .i64 0)).setCell ⟨w1.heap.size, v, none⟩ (.int .i64 (s v + 1))) := ((ball HS.out.bel hbx).setCell (by have := HS.out.bel.size; have := hbb.size; show _ ≤ g4; omega) _).setCell (by exact hsz) _
      have HO7 := Lib.hid o7; clear o7 o6 ho5 cT0 cT
      have HU := Lib.hid cU; clear cU
      have HTS := Lib.hid hts; clear hts
      have HMM := Lib.hid (show (wt N f (fun j => if j = z then 0 else c j - 1 * lapE (betF ls) (valF ls) v j)).toNat ≤ gk - 1 ∧ gk - 1 < gk by omega)
      clear hdn hwn hm
      generalize hsx : s v = sv at t0 hsv HO7 HU hb5
      have HSX := Lib.hid hsx; clear hsx
      go_wp2_with fail
      clear f4 c4 t0 t1
      generalize (w4.setCell ⟨g4, z, none⟩ (.int .i64 0)).setCell ⟨w1.heap.size, v, none⟩ (.int .i64 (sv + 1)) = W5 at HO7 HU hb5 ⊢
      refine (piNext_any N adl capl ls z (some ⟨g4, 0, none⟩) cap4 _ _ hl (hrl.below hb5) HG.out (by rw [tab_length]; simp) HO7.out.rd).mono ?_
      rw [Int.toNat_natCast]
      rintro e w6 ⟨⟨r2, rfl, hnx⟩, hb6⟩
      have HNX := Lib.hid (hnx.congr (fun j hj => fo_tab hj)); clear hnx
      go_wp2_with fail
      go_roundg (gk - 1)
      case measure => exact HMM.out.2
      case rel =>
        refine ⟨r2, _, _, g4, rfl, HO7.out.belowAll hb6, ?_, hne4, HU.out.belowAll hb6, ?_, HNX.out, HMM.out.1, ball hb5 hb6, ⟨cap4, rfl⟩, by simp⟩
        · have := HS.out.bel.size; have := hbb.size; omega
        · have := HTS.out
          rw [HSX.out] at this
          exact this

end Go.Proofs.Ytopkohkilmlpaaa
