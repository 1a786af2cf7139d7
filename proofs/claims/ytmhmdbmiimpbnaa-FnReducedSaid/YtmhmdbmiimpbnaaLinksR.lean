/-
  LinksOut: reference and program.
-/
import Derived.Test.YtmhmdbmiimpbnaaLinks
namespace Go.Proofs.Ytmhmdbmiimpbnaa
open Go.RowKit

theorem isum_map_add {α : Type} (l : List α) (f g : α → Int) : isum (l.map fun x => f x + g x) = isum (l.map f) + isum (l.map g) := by
  induction l with
  | nil => rfl
  | cons x l ih => simp only [List.map_cons, isum_cons, ih]; omega
theorem isum_map_congr {α : Type} {l : List α} {f g : α → Int} (h : ∀ x ∈ l, f x = g x) : isum (l.map f) = isum (l.map g) := by rw [List.map_congr_left h]
theorem isum_map_zero {α : Type} (l : List α) : isum (l.map fun _ => (0 : Int)) = 0 := isum_zero fun x hx => by
  obtain ⟨_, _, rfl⟩ := List.mem_map.1 hx
  rfl
theorem isum_single {α : Type} [DecidableEq α] (a : α) (c : Int) : ∀ {l : List α}, l.Nodup → isum (l.map fun v => if v = a then c else 0) = if a ∈ l then c else 0
  | [], _ => rfl
  | x :: l, h => by
    obtain ⟨h1, h2⟩ := List.nodup_cons.1 h
    rw [List.map_cons, isum_cons, isum_single a c h2]
    by_cases e : x = a
    · subst e; simp [h1]
    · have e' : a ≠ x := Ne.symm e
      simp [e, e']
theorem risB_nodup {l : List Int} {lo hi : Int} (h : risB l lo hi = true) : l.Nodup := by
  unfold List.Nodup
  rw [List.pairwise_iff_getElem]
  intro i j hi hj hij
  have := risB_lt h hij hj
  simp [List.getD, hi, hj] at this
  omega

def linkOut (ls : List Lk) (set : List Int) : Int := isum (ls.map fun x : Lk => if (decide (x.a ∈ set) != decide (x.b ∈ set)) = true then x.n else 0)
theorem linkOut_nil (set : List Int) : linkOut [] set = 0 := rfl
theorem linkOut_step {ls : List Lk} {set : List Int} {k : Nat} (hk : k < ls.length) {x : Lk} (hx : ls.getD k Lk.z = x) : linkOut (ls.take (k + 1)) set = linkOut (ls.take k) set + (if (decide (x.a ∈ set) != decide (x.b ∈ set)) = true then x.n else 0) := by
  unfold linkOut
  rw [take_snoc ls k Lk.z hk, hx, List.map_append, List.map_singleton, isum_snoc]
theorem linkOut_bound {n : Int} {ls : List Lk} (h : goodL n ls = true) (hl : ls.length ≤ 1048576) (set : List Int) (k : Nat) : 0 ≤ linkOut (ls.take k) set ∧ linkOut (ls.take k) set ≤ 5242880 := by
  have := isum_bound (l := (ls.take k).map fun x : Lk => if (decide (x.a ∈ set) != decide (x.b ∈ set)) = true then x.n else 0) (c := 5) (fun y hy => by
    obtain ⟨x, hx, rfl⟩ := List.mem_map.1 hy
    have := mem_take_good h hx
    split <;> omega)
  rw [List.length_map, List.length_take] at this
  unfold linkOut
  omega

/-- The sum over a set of the edges to vertices outside it is the sum over the links that leave it. -/
theorem outF_setF (bet : Nat → Nat → Int) (set : List Int) (N v : Nat) : outF bet (tab N (setF set)) v N = isum ((List.range N).map fun u : Nat => if (u : Int) ∈ set then 0 else bet v u) := by
  unfold outF
  refine isum_map_congr fun u hu => ?_
  rw [tab_getD (by simpa using hu)]
  unfold setF
  by_cases h : (u : Int) ∈ set
  · simp [h]
  · simp [h]
theorem range_single {N a : Nat} (h : a < N) (c : Int) : isum ((List.range N).map fun u => if u = a then c else 0) = c := by
  rw [isum_single a c List.nodup_range, if_pos (by simpa using h)]
theorem out_links {n : Int} {set : List Int} (hs : risB set 0 (n - 1) = true) : ∀ {l : List Lk}, (∀ x ∈ l, 0 ≤ x.a ∧ x.a < x.b ∧ x.b ≤ n - 1) →
    isum (set.map fun v : Int => isum ((List.range n.toNat).map fun u : Nat => if (u : Int) ∈ set then 0 else betF l v.toNat u)) = linkOut l set
  | [], _ => by
    rw [linkOut_nil]
    refine isum_zero fun y hy => ?_
    obtain ⟨v, _, rfl⟩ := List.mem_map.1 hy
    refine isum_zero fun y hy => ?_
    obtain ⟨u, _, rfl⟩ := List.mem_map.1 hy
    rw [betF_nil]; split <;> rfl
  | x :: l, h => by
    have ih := out_links hs (l := l) (fun y hy => h y (by simp [hy]))
    obtain ⟨g1, g2, g3⟩ := h x (by simp)
    obtain ⟨xa, xb, xn⟩ := x
    simp only at g1 g2 g3
    obtain ⟨a, rfl⟩ : ∃ a : Nat, xa = a := ⟨xa.toNat, by omega⟩
    obtain ⟨b, rfl⟩ : ∃ b : Nat, xb = b := ⟨xb.toNat, by omega⟩
    have inner : ∀ v ∈ set, isum ((List.range n.toNat).map fun u : Nat => if (u : Int) ∈ set then 0 else betF (⟨a, b, xn⟩ :: l) v.toNat u) =
        ((if v = (a : Int) then (if (b : Int) ∈ set then 0 else xn) else 0) + (if v = (b : Int) then (if (a : Int) ∈ set then 0 else xn) else 0)) + isum ((List.range n.toNat).map fun u : Nat => if (u : Int) ∈ set then 0 else betF l v.toNat u) := by
      intro v hv
      obtain ⟨j, hj, rfl⟩ := List.getElem_of_mem hv
      have hb := risB_bounds hs hj
      simp only [List.getD, List.getElem?_eq_getElem hj, Option.getD_some] at hb
      generalize set[j] = v at hb hv
      obtain ⟨v, rfl⟩ : ∃ v' : Nat, v = v' := ⟨v.toNat, by omega⟩
      have e : ∀ u ∈ List.range n.toNat, (if (u : Int) ∈ set then 0 else betF (⟨a, b, xn⟩ :: l) (v : Int).toNat u) =
          ((if u = b then (if (v : Int) = (a : Int) then (if (b : Int) ∈ set then 0 else xn) else 0) else 0) + (if u = a then (if (v : Int) = (b : Int) then (if (a : Int) ∈ set then 0 else xn) else 0) else 0)) + (if (u : Int) ∈ set then 0 else betF l (v : Int).toNat u) := by
        intro u _
        have eb : betF (⟨a, b, xn⟩ :: l) (v : Int).toNat u = (if ((a : Int) = (v : Int) ∧ (b : Int) = (u : Int)) ∨ ((a : Int) = (u : Int) ∧ (b : Int) = (v : Int)) then xn else 0) + betF l (v : Int).toNat u := by
          rw [Int.toNat_natCast]; rfl
        rw [eb]
        by_cases hu : (u : Int) ∈ set
        · rw [if_pos hu, if_pos hu]
          by_cases e1 : u = b
          · subst e1
            rw [if_pos rfl, if_pos hu, if_neg (show ¬ u = a by omega)]; simp
          · rw [if_neg e1]
            by_cases e2 : u = a
            · subst e2; rw [if_pos rfl, if_pos hu]; simp
            · rw [if_neg e2]; simp
        · rw [if_neg hu, if_neg hu]
          by_cases e1 : u = b
          · subst e1
            rw [if_pos rfl, if_neg hu, if_neg (show ¬ u = a by omega)]
            by_cases e3 : (v : Int) = (a : Int)
            · rw [if_pos e3, if_pos (Or.inl ⟨e3.symm, rfl⟩)]; omega
            · rw [if_neg e3, if_neg (by omega)]; omega
          · rw [if_neg e1]
            by_cases e2 : u = a
            · subst e2
              rw [if_pos rfl, if_neg hu]
              by_cases e3 : (v : Int) = (b : Int)
              · rw [if_pos e3, if_pos (Or.inr ⟨rfl, e3.symm⟩)]; omega
              · rw [if_neg e3, if_neg (by omega)]; omega
            · rw [if_neg e2, if_neg (by omega)]; omega
      rw [isum_map_congr e, isum_map_add, isum_map_add, range_single (by omega), range_single (by omega)]
    rw [isum_map_congr inner, isum_map_add, isum_map_add, isum_single (a : Int) _ (risB_nodup hs), isum_single (b : Int) _ (risB_nodup hs), ih]
    show _ = isum _
    rw [List.map_cons, isum_cons]
    show _ = _ + linkOut l set
    congr 1
    by_cases h1 : (a : Int) ∈ set <;> by_cases h2 : (b : Int) ∈ set <;> simp [h1, h2]

def linksR (n : Int) (ls : List Lk) (set : List Int) : Int × Bool := if goodL n ls = true ∧ risB set 0 (n - 1) = true then (linkOut ls set, true) else (0, false)

set_option maxHeartbeats 800000 in
set_option maxRecDepth 100000 in
theorem specLinks_c (n : Int) (ad : Option Addr) (cap : Nat) (ls : List Lk) (a : Addr) (cap' : Nat) (set : List Int) (w : World) (hl : ls.length ≤ 1048576) (hr : RdL w ad ls) (hl' : set.length ≤ 1048576) (hr' : RdI w (some a) set) :
    Calls Try.prog 24 #[.int .i64 n, .slice ad ls.length cap, .slice (some a) set.length cap'] w (RetIB (linksR n ls set) w) := by
  by_cases hg : goodL n ls = true
  · obtain ⟨hn1, hn2⟩ := good_n hg
    by_cases hs : risB set 0 (n - 1) = true
    · have hR : Hid (linksR n ls set = (linkOut ls set, true)) := if_pos ⟨hg, hs⟩
      have HGD := Lib.hid hg
      have HRL := Lib.hid hr
      have HRS := Lib.hid hr'
      go_enter Try.func24, Try.ntmps24
      go_wp2_with fail
      refine (chGood_any n ad cap ls _ hl hr).mono ?_
      rw [hg]
      rintro e w1 ⟨rfl, hb1⟩
      go_wp2_with fail
      refine (l1Ris_any (some a) cap' set (n - 1) _ hl' (hr'.below hb1)).mono ?_
      rw [hs]
      rintro e w' ⟨rfl, rfl⟩
      clear hg hs hr hr'
      go_wp2_with fail
      go_loopw [8, 24] (fun s i wr => ∃ k : Nat, k ≤ ls.length ∧ i = .int .i64 k ∧ s = .int .i64 (linkOut (ls.take k) set) ∧ Below w.heap.size w wr) (fun _ i _ => ls.length - (intOf i).toNat)
      case atStart => exact ⟨0, Nat.zero_le _, rfl, rfl, hb1⟩
      case round =>
        obtain ⟨k, hk, rfl, rfl, hbel⟩ := hrel
        have v3 := linkOut_bound HGD.out hl set k
        by_cases hlt : k < ls.length
        · obtain ⟨b, off, rfl, hb, c0, c1, c2⟩ := HRL.out k hlt
          have d0 := bcell hbel hb c0
          have d1 := bcell hbel hb c1
          have d2 := bcell hbel hb c2
          clear c0 c1 c2
          obtain ⟨xl, hx⟩ : ∃ xl, ls.getD k Lk.z = xl := ⟨_, rfl⟩
          obtain ⟨g1, g2, g3, g4, g5⟩ := good_lk HGD.out hlt hx
          have st := linkOut_step (set := set) hlt hx
          rw [hx] at d0 d1 d2
          obtain ⟨xa, xb, xn⟩ := xl
          simp only at d0 d1 d2 g1 g2 g3 g4 g5 st
          have HX := Lib.hid hx; clear hx
          have HST := Lib.hid st; clear st
          have hbX := hbel.alloc hbel.size (.cells #[.int .i64 xa, .int .i64 xb, .int .i64 xn] 41)
          generalize linkOut (ls.take k) set = s at v3 HST ⊢
          by_cases ha : xa ∈ set
          case pos =>
            by_cases hb2 : xb ∈ set
            case pos =>
              have dA : decide (xa ∈ set) = true := by simp [ha]
              have dB : decide (xb ∈ set) = true := by simp [hb2]
              have HA := Lib.hid ha; clear ha
              have HB := Lib.hid hb2; clear hb2
              go_wp2_with fail
              go_quiet ((go_at_call 72; exact Calls.quiet_of_same ((l1Has_any _ _ _ _ _ hl' (HRS.out.below (bdrewN hbX _))).mono (fun e w' h => ⟨h.1, h.2.symm⟩))))
              go_wp2
              go_roundw
              case rel => exact ⟨k + 1, by omega, by go_num, by rw [HST.out, if_neg (by simp [HA.out, HB.out]), Int.add_zero], bdrewN hbX _⟩
              case measure => simp [intOf]; omega
            case neg =>
              have dA : decide (xa ∈ set) = true := by simp [ha]
              have dB : decide (xb ∈ set) = false := by simp [hb2]
              have HA := Lib.hid ha; clear ha
              have HB := Lib.hid hb2; clear hb2
              go_wp2_with fail
              go_quiet ((go_at_call 72; exact Calls.quiet_of_same ((l1Has_any _ _ _ _ _ hl' (HRS.out.below (bdrewN hbX _))).mono (fun e w' h => ⟨h.1, h.2.symm⟩))))
              go_wp2
              go_roundw
              case rel => exact ⟨k + 1, by omega, by go_num, by rw [HST.out, if_pos (by simp [HA.out, HB.out])], bdrewN hbX _⟩
              case measure => simp [intOf]; omega
          case neg =>
            by_cases hb2 : xb ∈ set
            case pos =>
              have dA : decide (xa ∈ set) = false := by simp [ha]
              have dB : decide (xb ∈ set) = true := by simp [hb2]
              have HA := Lib.hid ha; clear ha
              have HB := Lib.hid hb2; clear hb2
              go_wp2_with fail
              go_quiet ((go_at_call 72; exact Calls.quiet_of_same ((l1Has_any _ _ _ _ _ hl' (HRS.out.below (bdrewN hbX _))).mono (fun e w' h => ⟨h.1, h.2.symm⟩))))
              go_wp2
              go_roundw
              case rel => exact ⟨k + 1, by omega, by go_num, by rw [HST.out, if_pos (by simp [HA.out, HB.out])], bdrewN hbX _⟩
              case measure => simp [intOf]; omega
            case neg =>
              have dA : decide (xa ∈ set) = false := by simp [ha]
              have dB : decide (xb ∈ set) = false := by simp [hb2]
              have HA := Lib.hid ha; clear ha
              have HB := Lib.hid hb2; clear hb2
              go_wp2_with fail
              go_quiet ((go_at_call 72; exact Calls.quiet_of_same ((l1Has_any _ _ _ _ _ hl' (HRS.out.below (bdrewN hbX _))).mono (fun e w' h => ⟨h.1, h.2.symm⟩))))
              go_wp2
              go_roundw
              case rel => exact ⟨k + 1, by omega, by go_num, by rw [HST.out, if_neg (by simp [HA.out, HB.out]), Int.add_zero], bdrewN hbX _⟩
              case measure => simp [intOf]; omega
        · have he : k = ls.length := by omega
          subst he
          rw [List.take_length] at v3 ⊢
          go_wp2
          go_ret2
          exact RetIB.of hR.out hbel
    · have hs' := Bool.eq_false_iff.2 hs
      have hR : Hid (linksR n ls set = (0, false)) := if_neg (by simp [hs'])
      go_enter Try.func24, Try.ntmps24
      go_wp2_with fail
      refine (chGood_any n ad cap ls _ hl hr).mono ?_
      rw [hg]
      rintro e w1 ⟨rfl, hb1⟩
      go_wp2_with fail
      refine (l1Ris_any (some a) cap' set (n - 1) _ hl' (hr'.below hb1)).mono ?_
      rw [hs']
      rintro e w' ⟨rfl, rfl⟩
      go_wp2
      go_ret2
      exact RetIB.of hR.out hb1
  · have hg' := Bool.eq_false_iff.2 hg
    have hR : Hid (linksR n ls set = (0, false)) := if_neg (by simp [hg'])
    go_enter Try.func24, Try.ntmps24
    go_wp2_with fail
    refine (chGood_any n ad cap ls _ hl hr).mono ?_
    rw [hg']
    rintro e w1 ⟨rfl, hb1⟩
    go_wp2
    go_ret2
    exact RetIB.of hR.out hb1

/-- What the program sums up. -/
def setOut (bet : Nat → Nat → Int) (m : List Int) (N : Nat) (l : List Int) : Int := isum (l.map fun v : Int => outF bet m v.toNat N)
theorem setOut_step {bet : Nat → Nat → Int} {m : List Int} {N : Nat} {l : List Int} {k : Nat} (hk : k < l.length) : setOut bet m N (l.take (k + 1)) = setOut bet m N (l.take k) + outF bet m (l.getD k 0).toNat N := by
  unfold setOut
  rw [take_snoc l k 0 hk, List.map_append, List.map_singleton, isum_snoc]
theorem setOut_bound {bet : Nat → Nat → Int} {m : List Int} {N : Nat} {l : List Int} (hN : N ≤ 8) (hl : l.length ≤ 1048576) (hb : ∀ v j, 0 ≤ bet v j ∧ bet v j ≤ 5) (k : Nat) : 0 ≤ setOut bet m N (l.take k) ∧ setOut bet m N (l.take k) ≤ 41943040 := by
  have := isum_bound (l := (l.take k).map fun v : Int => outF bet m v.toNat N) (c := 40) (fun y hy => by
    obtain ⟨x, hx, rfl⟩ := List.mem_map.1 hy
    have := outF_bound (m := m) (v := x.toNat) (fun j (_ : j < N) => hb x.toNat j) N (Nat.le_refl _)
    omega)
  rw [List.length_map, List.length_take] at this
  unfold setOut
  omega
theorem setOut_link {n : Int} {ls : List Lk} {set : List Int} (hg : goodL n ls = true) (hs : risB set 0 (n - 1) = true) : setOut (betF ls) (tab n.toNat (setF set)) n.toNat set = linkOut ls set := by
  unfold setOut
  rw [← out_links hs (l := ls) (fun x hx => by have := good_mem hg hx; omega)]
  exact isum_map_congr fun v _ => outF_setF _ _ _ _

set_option maxHeartbeats 800000 in
set_option maxRecDepth 100000 in
theorem implLinks_c (n : Int) (ad : Option Addr) (cap : Nat) (ls : List Lk) (a : Addr) (cap' : Nat) (set : List Int) (w : World) (hl : ls.length ≤ 1048576) (hr : RdL w ad ls) (hl' : set.length ≤ 1048576) (hr' : RdI w (some a) set) :
    Calls Try.prog 23 #[.int .i64 n, .slice ad ls.length cap, .slice (some a) set.length cap'] w (RetIB (linksR n ls set) w) := by
  by_cases hg : goodL n ls = true
  · obtain ⟨hn1, hn2⟩ := good_n hg
    have hnn : Hid (risB set 0 ((n.toNat : Int) - 1) = risB set 0 (n - 1)) := by show _ = _; rw [Int.toNat_of_nonneg (by omega)]
    by_cases hs : risB set 0 (n - 1) = true
    · have hR : Hid (linksR n ls set = (linkOut ls set, true)) := if_pos ⟨hg, hs⟩
      have HGD := Lib.hid hg
      have HSS := Lib.hid hs
      have HRS := Lib.hid hr'
      have hbt : ∀ v j, 0 ≤ betF ls v j ∧ betF ls v j ≤ 5 := fun v j => by have := betF_bound hg ls.length v j; rwa [List.take_length] at this
      have HBT := Lib.hid hbt; clear hbt
      go_enter Try.func23, Try.ntmps23
      go_wp2_with fail
      refine (graphOf_any n ad cap ls _ hl hr hg).mono ?_
      rintro e w1 ⟨G, gb, gv, capb, rb, rfl, hG, hGB, hGV, hb1⟩
      have HG := Lib.hid hG; clear hG
      go_wp2_with fail
      refine (isSet_any G gb gv capb rb n.toNat _ _ _ (some a) cap' set _ HG.out (by omega) hl' (hr'.below hb1)).mono ?_
      rw [hnn.out, hs]
      rintro e w' ⟨rfl, rfl⟩
      go_wp2_with fail
      refine (scriptOf_any G gb gv capb rb n.toNat _ _ _ a cap' set _ HG.out (by omega) hl' (hr'.below hb1) (fun j hj => by have := risB_bounds hs hj; omega)).mono ?_
      rintro e w2 ⟨gm, rfl, hgm, hom, hb2⟩
      have bb := ball hb1 hb2
      have HG2 := Lib.hid (HG.out.below hb2)
      have HOM := Lib.hid hom.rd
      clear hg hs hr hr' hom
      go_wp2_with fail
      go_loop [11, 33] (fun s i => ∃ k : Nat, k ≤ set.length ∧ i = .int .i64 k ∧ s = .int .i64 (setOut (betF ls) (tab n.toNat (setF set)) n.toNat (set.take k))) (fun _ i => set.length - (intOf i).toNat)
      case atStart => exact ⟨0, Nat.zero_le _, rfl, rfl⟩
      case round =>
        obtain ⟨k, hk, rfl, rfl⟩ := hrel
        have v3 := setOut_bound (bet := betF ls) (m := tab n.toNat (setF set)) (N := n.toNat) (by omega) hl' HBT.out k
        by_cases hlt : k < set.length
        · obtain ⟨b, off, e, hb, c⟩ := HRS.out k hlt
          obtain rfl : a = ⟨b, off, none⟩ := by simpa using e
          clear e
          have d0 := bcell bb hb c
          clear c
          have xb := risB_bounds HSS.out hlt
          have st := setOut_step (bet := betF ls) (m := tab n.toNat (setF set)) (N := n.toNat) hlt
          generalize set.getD k 0 = x at d0 xb st
          obtain ⟨v, rfl⟩ : ∃ v : Nat, x = v := ⟨x.toNat, by omega⟩
          rw [Int.toNat_natCast] at st
          have ob := outF_bound (bet := betF ls) (m := tab n.toNat (setF set)) (v := v) (N := n.toNat) (fun j _ => HBT.out v j) n.toNat (Nat.le_refl _)
          have HST := Lib.hid st; clear st
          generalize setOut (betF ls) (tab n.toNat (setF set)) n.toNat (set.take k) = s at v3 HST ⊢
          go_wp2_with fail
          refine (outside_any G gb gv capb rb n.toNat _ _ _ v _ _ (tab n.toNat (setF set)) _ HG2.out (by omega) (by omega) (tab_length _ _) HOM.out (fun j _ => HBT.out v j)).mono ?_
          rintro e w' ⟨rfl, rfl⟩
          generalize outF (betF ls) (tab n.toNat (setF set)) v n.toNat = o at ob HST ⊢
          go_wp2
          go_round
          case rel => exact ⟨k + 1, by omega, by go_num, by rw [HST.out]⟩
          case measure => simp [intOf]; omega
        · have he : k = set.length := by omega
          subst he
          rw [List.take_length] at v3 ⊢
          go_wp2
          go_ret2
          exact RetIB.of (by rw [hR.out, ← setOut_link HGD.out HSS.out]) bb
    · have hs' := Bool.eq_false_iff.2 hs
      have hR : Hid (linksR n ls set = (0, false)) := if_neg (by simp [hs'])
      go_enter Try.func23, Try.ntmps23
      go_wp2_with fail
      refine (graphOf_any n ad cap ls _ hl hr hg).mono ?_
      rintro e w1 ⟨G, gb, gv, capb, rb, rfl, hG, hGB, hGV, hb1⟩
      have HG := Lib.hid hG; clear hG
      go_wp2_with fail
      refine (isSet_any G gb gv capb rb n.toNat _ _ _ (some a) cap' set _ HG.out (by omega) hl' (hr'.below hb1)).mono ?_
      rw [hnn.out, hs']
      rintro e w' ⟨rfl, rfl⟩
      go_wp2
      go_ret2
      exact RetIB.of hR.out hb1
  · have hg' := Bool.eq_false_iff.2 hg
    have hR : Hid (linksR n ls set = (0, false)) := if_neg (by simp [hg'])
    go_enter Try.func23, Try.ntmps23
    go_wp2_with fail
    refine (graphOf_no n ad cap ls _ hl hr hg').mono ?_
    rintro e w1 ⟨rfl, hb1⟩
    go_wp2
    go_ret2
    exact RetIB.of hR.out hb1

end Go.Proofs.Ytmhmdbmiimpbnaa
