/-
  Plain: what the law of hulls says. By an AI agent.
-/
import Derived.Test.YtnapcjfemlhkmaaGreatDoorHuH
import Derived.Test.YtnapcjfemlhkmaaGreatDoorHuK
import Derived.Test.YtnapcjfemlhkmaaGreatDoorPyHull
namespace Go.Proofs.YtnapcjfemlhkmaaGreatDoor
open Go.RowKit

theorem ptsB_memH {l : List Pt} (h : ptsB l = true) {p : Pt} (hp : p ∈ l) : ptB p = true := by
  unfold ptsB at h
  exact List.all_eq_true.1 (Bool.and_eq_true_iff.1 h).2 p hp
theorem hul_pol {l : List Pt} (h : ptsB l = true) : polyB (hulO l) = true := by
  obtain ⟨h1, h2, _⟩ := ptsB_t h
  have e : hulO l = hullF (pySortF l) := by unfold hulO; rw [if_pos h]
  rw [e]
  unfold polyB
  rw [Geo.hull_hull (pySortF_strict l), decide_eq_true rfl, Bool.and_true]
  unfold ptsB
  have hp := hullF_pos (l := l) (by omega)
  have hle := Geo.hull_len_le l
  rw [inB_t.2 (by omega), Bool.true_and, List.all_eq_true]
  intro p hp
  exact ptsB_memH h ((pySortF_mem _ _).1 (Geo.hull_sub (pySortF_strict _) hp))
theorem hul_has {l : List Pt} (h : ptsB l = true) {p : Pt} (hp : p ∈ l) : hasV (hulO l) p = true ∧ hasK (hulO l) p = true := by
  have hk : hasK (hulO l) p = true := by unfold hasK; rw [hul_pol h, ptsB_memH h hp]; rfl
  refine ⟨?_, hk⟩
  unfold hasV
  rw [hk, Bool.true_and]
  have e : hulO l = hullF (pySortF l) := by unfold hulO; rw [if_pos h]
  rw [e]
  exact Geo.hull_has hp
theorem hulO_len (l : List Pt) : (hulO l).length ≤ l.length := by
  unfold hulO
  split
  · exact Geo.hull_len_le l
  · simp
def sumX (E : List Pt) : Int := (E.map fun p => p.x).sum
def sumY (E : List Pt) : Int := (E.map fun p => p.y).sum
theorem edges_sides (X : List Pt) : edgesP X = (Geo.sidesF X).map fun e => subP e.2 e.1 := sides_tab (fun a b => subP b a) X
theorem edges_sum (X : List Pt) : sumX (edgO X) = 0 ∧ sumY (edgO X) = 0 := by
  unfold edgO
  split
  · split
    · exact ⟨rfl, rfl⟩
    · rw [edges_sides]
      unfold sumX sumY
      rw [List.map_map, List.map_map]
      exact ⟨Geo.loop (fun p => p.x) X, Geo.loop (fun p => p.y) X⟩
  · exact ⟨rfl, rfl⟩
theorem edgO_bd {X : List Pt} (h : polyB X = true) : (edgO X).length ≤ 40 ∧ ∀ p ∈ edgO X, (-1000 ≤ p.x ∧ p.x ≤ 1000) ∧ -1000 ≤ p.y ∧ p.y ≤ 1000 := by
  obtain ⟨h1, h2, _⟩ := ptsB_t (polyB_ptsH h)
  unfold edgO
  rw [if_pos h]
  split
  · exact ⟨by simp, by simp⟩
  · refine ⟨by unfold edgesP; rw [tab_length]; exact h2, fun p hp => ?_⟩
    unfold edgesP tab at hp
    obtain ⟨i, hi, rfl⟩ := List.mem_map.1 hp
    have hi := List.mem_range.1 hi
    have b1 := ptB_bdH (polyB_all h _ (getD_memP hi))
    have b2 := ptB_bdH (polyB_all h _ (getD_memP (Nat.mod_lt (i + 1) (show 0 < X.length by omega))))
    unfold edgeP nextP subP
    simp only
    omega
theorem sumX_take {E : List Pt} {k : Nat} (hk : k < E.length) : sumX (E.take (k + 1)) = sumX (E.take k) + (E.getD k default).x ∧ sumY (E.take (k + 1)) = sumY (E.take k) + (E.getD k default).y := by
  rw [take_snoc2 E k hk]
  unfold sumX sumY
  simp
theorem sum_bd {E : List Pt} (h : ∀ p ∈ E, (-1000 ≤ p.x ∧ p.x ≤ 1000) ∧ -1000 ≤ p.y ∧ p.y ≤ 1000) : (-(1000 * (E.length : Int)) ≤ sumX E ∧ sumX E ≤ 1000 * (E.length : Int)) ∧ -(1000 * (E.length : Int)) ≤ sumY E ∧ sumY E ≤ 1000 * (E.length : Int) := by
  induction E with
  | nil => simp [sumX, sumY]
  | cons p E ih =>
    have h1 := ih (fun q hq => h q (List.mem_cons_of_mem _ hq))
    have h2 := h p (by simp)
    unfold sumX sumY at h1 ⊢
    simp only [List.map_cons, List.sum_cons, List.length_cons]
    omega
/-- What the law needs of a hull. -/
structure HulG (l X E : List Pt) (T : List UInt8) : Prop where
  pol : polyB X = true
  pt : ∀ p ∈ l, ptB p = true
  has : ∀ p ∈ l, hasV X p = true ∧ hasK X p = true
  edg : edgO X = E
  txt : txtO X = T
  s0 : sumX E = 0 ∧ sumY E = 0
  len : E.length ≤ 40
  bd : ∀ k, k ≤ E.length → (-100000 ≤ sumX (E.take k) ∧ sumX (E.take k) ≤ 100000) ∧ -100000 ≤ sumY (E.take k) ∧ sumY (E.take k) ≤ 100000
  par : parB T = true ∧ parL T = X
  tl : T.length ≤ 10000
theorem hulG {l : List Pt} (h : ptsB l = true) : ∃ E T, HulG l (hulO l) E T := by
  have hp := hul_pol h
  obtain ⟨h1, h2⟩ := edgO_bd hp
  refine ⟨edgO (hulO l), txtO (hulO l), hp, fun p hm => ptsB_memH h hm, fun p hm => hul_has h hm, rfl, rfl, edges_sum _, h1, fun k hk => ?_, ?_, ?_⟩
  · have := sum_bd (E := (edgO (hulO l)).take k) (fun p hp => h2 p (List.mem_of_mem_take hp))
    rw [List.length_take] at this
    omega
  · unfold txtO
    rw [if_pos hp]
    exact par_txt hp
  · unfold txtO
    rw [if_pos hp]
    have := polTxt_len _ (polyB_all hp)
    have := (ptsB_t (polyB_ptsH hp)).2.1
    omega
theorem qP_c (ad ad2 : Option Addr) (cap cap2 : Nat) (X : List Pt) (w : World) (h1 : RdP w ad X) (h2 : RdP w ad2 X) (hl : X.length ≤ 100000) :
    Calls Tryz.prog 7 #[.slice ad X.length cap, .slice ad2 X.length cap2] w fun e w' => e = .returned (.bool true) ∧ Below w.heap.size w w' := by
  have := qPoints_c ad ad2 cap cap2 X X w h1 h2 hl hl
  rwa [decide_eq_true rfl] at this
theorem sParse_same (l : List UInt8) (w : World) (hs : l.length ≤ 10000) :
    Calls Tryz.prog 19 #[.string ⟨l.toArray⟩] w (HulR w (if parB l = true then parL l else []) (parB l)) := by
  have h := sParsePol_c l w hs
  obtain ⟨h1, h2⟩ := par_eq l
  rw [h1] at h
  have e : (if parB l = true then parSL l else []) = (if parB l = true then parL l else []) := by
    split
    · rename_i h3; rw [h2 h3]
    · rfl
  rw [e] at h
  exact h
theorem par_len (l : List UInt8) : (if parB l = true then parL l else []).length ≤ 40 := by
  split
  · rename_i h
    exact (ptsB_t (polyB_ptsH (parB_t h).1)).2.1
  · simp
end Go.Proofs.YtnapcjfemlhkmaaGreatDoor
