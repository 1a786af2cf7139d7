/-
  Costs of cheapest ways that are numbers: program and reference. By an AI agent.
-/
import Derived.Test.YtbffcbjbeeagmaaWyC
namespace Go.Proofs.Ytbffcbjbeeagmaa
open Go.RowKit

def nmB (M : List (List Int)) : Bool := M.all fun r => r.all numB
def disM (M : List (List Int)) : List (List Int) := toM M.length (bf M.length (entM M) M.length)
def okW (M : List (List Int)) : Bool := sqB M && okB M.length (entM M)
def cosB (M : List (List Int)) : Bool := okW M && nmB (disM M)
def onM (B : Bool) (X : List (List Int)) : List (List Int) := if B = true then X else []
def ManR (B : Bool) (X : List (List Int)) (w : World) (e : Ending) (w' : World) : Prop := ∃ ad cap, e = .returned (.tuple #[.slice ad (onM B X).length cap, .bool B]) ∧ RdM w' ad (onM B X) ∧ Below w.heap.size w w'
theorem ManR.no {w w' : World} (X : List (List Int)) (hb : Below w.heap.size w w') : ManR false X w (.returned (.tuple #[.slice none 0 0, .bool false])) w' := ⟨none, 0, rfl, RdM.nil _ _, hb⟩
theorem ManR.yes {w w' : World} {ad : Option Addr} {cap n : Nat} {X : List (List Int)} (h : RdM w' ad X) (hn : X.length = n) (hb : Below w.heap.size w w') : ManR true X w (.returned (.tuple #[.slice ad n cap, .bool true])) w' := by
  subst hn
  exact ⟨ad, cap, rfl, h, hb⟩
theorem toM_inj {n : Nat} {F G : Nat → Nat → Int} : toM n F = toM n G ↔ ∀ i j, i < n → j < n → F i j = G i j := by
  constructor
  · intro h i j hi hj
    have h1 := congrArg (fun M => (M.getD i []).getD j 0) h
    rw [toM_row F hi, toM_row G hi, tab_getD hj, tab_getD hj] at h1
    exact h1
  · exact toM_congr
theorem okB_t {n : Nat} {m : Nat → Nat → Int} : okB n m = true ↔ ∀ i k, i < n → k < n → bf n m n i k = bf n m (n + 1) i k := by
  unfold okB
  rw [decide_eq_true_iff, toM_inj]
theorem ok_same {n : Nat} {m : Nat → Nat → Int} (hm : ∀ a b, a < n → b < n → numB (m a b) = true) (hn6 : n ≤ 6) : okF n (fwK n (fw0 m) n) = okB n m := by
  rw [Bool.eq_iff_iff, okF_t, okB_t]
  exact ways_ok hm hn6
theorem dis_same {n : Nat} {m : Nat → Nat → Int} (hm : ∀ a b, a < n → b < n → numB (m a b) = true) (hn6 : n ≤ 6) (hok : okB n m = true) : toM n (fwK n (fw0 m) n) = toM n (bf n m n) :=
  toM_congr fun i j hi hj => ways_eq hm hn6 (okF_t.1 (by rw [ok_same hm hn6]; exact hok)) hi hj

set_option maxHeartbeats 800000 in
theorem toldNumbers1_c (a : Option Addr) (c : Nat) (r : List Int) (w : World) (hr : RdI w a r) (hl : r.length ≤ 1048576) :
    Calls Try.prog 87 #[.slice a r.length c] w fun e w' => e = .returned (.bool (!(r.all numB))) ∧ Below w.heap.size w w' := by
  have C1 := Lib.hid (areNumbers_c a c r w hr hl)
  clear hr
  generalize r.all numB = V at C1 ⊢
  go_enter Try.func87, Try.ntmps87
  go_wp2_with fail
  refine C1.out.mono ?_
  rintro e w1 ⟨rfl, rfl⟩
  go_wp2_with fail
  go_ret
  exact ⟨rfl, Below.refl _ _⟩
set_option maxHeartbeats 800000 in
theorem toldNumbers_c (ad : Option Addr) (cap : Nat) (M : List (List Int)) (w : World) (hr : RdM w ad M) (hl : M.length ≤ 1048576) (hl2 : ∀ i, i < M.length → (M.getD i []).length ≤ 1048576) :
    Calls Try.prog 37 #[.slice ad M.length cap] w fun e w' => e = .returned (.tuple #[if nmB M = true then .slice ad M.length cap else .slice none 0 0, .bool (nmB M)]) ∧ Below w.heap.size w w' := by
  have CC := containsM0 87 (fun r => !(r.all numB)) ad cap M w hl hr
      (callFunc_plainM Try.func87 (by kernel_rfl) (by kernel_rfl)) (fun i hi a c w2 hb2 hri => toldNumbers1_c a c (M.getD i []) w2 hri (hl2 i hi))
  have hany : (M.any fun r => !(r.all numB)) = !(nmB M) := by
    unfold nmB
    rw [List.any_eq_not_all_not]
    congr 1
    congr 1
    funext r
    rw [Bool.not_not]
  rw [hany] at CC
  have HCC := Lib.hid CC
  clear CC hany hr hl hl2
  generalize nmB M = V at HCC ⊢
  generalize M.length = n at HCC ⊢
  cases V
  · go_enter Try.func37, Try.ntmps37
    go_wp2_with fail
    refine HCC.out.mono ?_
    rintro e w1 ⟨rfl, hb⟩
    go_wp2_with fail
    exact bodyPost_ret (v := .tuple #[.slice none 0 0, .bool false]) (by simp [results, Try.results37, go_sem]) rfl ⟨rfl, hb⟩
  · go_enter Try.func37, Try.ntmps37
    go_wp2_with fail
    refine HCC.out.mono ?_
    rintro e w1 ⟨rfl, hb⟩
    go_wp2_with fail
    exact bodyPost_ret (v := .tuple #[.slice ad n cap, .bool true]) (by simp [results, Try.results37, go_sem]) rfl ⟨rfl, hb⟩

set_option maxHeartbeats 1600000 in
theorem wyGood_c (ad : Option Addr) (cap : Nat) (M : List (List Int)) (w : World) (hr : RdM w ad M) (hl : M.length ≤ 1048576) (hl2 : ∀ i, i < M.length → (M.getD i []).length ≤ 1048576) :
    Calls Try.prog 40 #[.slice ad M.length cap] w fun e w' => e = .returned (.bool (nmB M)) ∧ w = w' := by
  have HR := Lib.hid hr; clear hr
  obtain ⟨V, hV⟩ : ∃ V, nmB M = V := ⟨_, rfl⟩
  rw [hV]
  have HV := Lib.hid hV; clear hV
  go_enter Try.func40, Try.ntmps40
  go_wp2_with fail
  go_loop [9] (fun i => ∃ k : Nat, k ≤ M.length ∧ i = .int .i64 k ∧ ∀ j, j < k → (M.getD j []).all numB = true) (fun i => M.length - (intOf i).toNat)
  case atStart => exact ⟨0, Nat.zero_le _, rfl, fun j hj => by omega⟩
  case round =>
    obtain ⟨k, hk, rfl, hj⟩ := hrel
    have HJ := Lib.hid hj; clear hj
    by_cases hlt : k < M.length
    case neg =>
      obtain rfl : k = M.length := by omega
      obtain rfl : V = true := by rw [← HV.out]; exact allM_t HJ.out
      go_wp2_with fail
      go_ret
      exact ⟨rfl, rfl⟩
    case pos =>
      obtain ⟨b, off, a, c, rfl, hb, cc, hri⟩ := HR.out k hlt
      have hrl := hl2 k hlt
      obtain ⟨r, hx⟩ : ∃ x, M.getD k [] = x := ⟨_, rfl⟩
      rw [hx] at cc hri hrl
      have HX := Lib.hid hx; have HRI := Lib.hid hri; clear hx hri
      have x1 : (0 : Int) ≤ (k : Int) := by omega
      have x2 : (k : Int) < (M.length : Int) := by omega
      go_wp2_with fail
      go_loop [15] (fun i => ∃ q : Nat, q ≤ r.length ∧ i = .int .i64 q ∧ ∀ j, j < q → numB (r.getD j 0) = true) (fun i => r.length - (intOf i).toNat)
      case atStart => exact ⟨0, Nat.zero_le _, rfl, fun j hj => by omega⟩
      case round =>
        obtain ⟨q, hq, rfl, hj⟩ := hrel
        have HQ := Lib.hid hj; clear hj
        by_cases hlq : q < r.length
        case pos =>
          obtain ⟨b2, o2, rfl, hb2, c2⟩ := HRI.out q hlq
          obtain ⟨x, hx⟩ : ∃ x, r.getD q 0 = x := ⟨_, rfl⟩
          rw [hx] at c2
          have HXX := Lib.hid hx; clear hx
          have C1 := Lib.hid (fun w => nuGood_c x w)
          have x3 : (0 : Int) ≤ (q : Int) := by omega
          have x4 : (q : Int) < (r.length : Int) := by omega
          by_cases h1 : numB x = true
          · rw [h1] at C1
            go_wp2_with fail
            refine (C1.out _).mono ?_
            rintro e w1 ⟨rfl, rfl⟩
            go_wp2_with fail
            go_round
            case rel =>
              refine ⟨q + 1, by omega, by go_num, fun j hj => ?_⟩
              by_cases e : j = q
              · subst e; rw [HXX.out]; exact h1
              · exact HQ.out j (by omega)
            case measure => simp [intOf]; omega
          · have h1' := Bool.eq_false_iff.2 h1
            rw [h1'] at C1
            obtain rfl : V = false := by
              rw [← HV.out]
              refine allM_f hlt ?_
              rw [HX.out, List.all_eq_false]
              exact ⟨r.getD q 0, getD_memI hlq, by rw [HXX.out]; simpa using h1'⟩
            go_wp2_with fail
            refine (C1.out _).mono ?_
            rintro e w1 ⟨rfl, rfl⟩
            go_wp2_with fail
            go_ret
            exact ⟨rfl, rfl⟩
        case neg =>
          obtain rfl : q = r.length := by omega
          have hall : r.all numB = true := by
            rw [List.all_eq_true]
            intro x hx
            obtain ⟨j, hj, rfl⟩ := List.getElem_of_mem hx
            have := HQ.out j hj
            simpa [List.getD, hj] using this
          have HALL := Lib.hid hall; clear hall
          go_wp2_with fail
          go_round
          case rel =>
            refine ⟨k + 1, by omega, by go_num, fun j hj => ?_⟩
            by_cases e : j = k
            · subst e; rw [HX.out]; exact HALL.out
            · exact HJ.out j (by omega)
          case measure => simp [intOf]; omega

/-- The program's costs, in the reference's words. -/
theorem wayCosts2_c (ad : Option Addr) (cap : Nat) (M : List (List Int)) (w : World) (hr : RdM w ad M) (hs : sqB M = true) :
    Calls Try.prog 36 #[.slice ad M.length cap] w fun e w' => (okW M = true → ∃ adv cav, e = .returned (.tuple #[.slice adv M.length cav, .bool true]) ∧ ∃ vs, MatO w' w.heap.size (.slice adv M.length cav) (disM M) vs) ∧ (okW M = false → e = .returned (.tuple #[.slice none 0 0, .bool false])) ∧ Below w.heap.size w w' := by
  obtain ⟨hn, hrow, hnum⟩ := sq_facts hs
  refine (wayCosts_c ad cap M w hr hs).mono ?_
  rintro e w' ⟨h1, h2, h3⟩
  have hok : okF M.length (fwK M.length (fw0 (entM M)) M.length) = okW M := by unfold okW; rw [hs, Bool.true_and]; exact ok_same hnum hn.2
  rw [hok] at h1 h2
  refine ⟨fun h => ?_, h2, h3⟩
  obtain ⟨adv, cav, e1, vs, hm⟩ := h1 h
  rw [dis_same (m := entM M) hnum hn.2 (by unfold okW at h; rw [hs, Bool.true_and] at h; exact h)] at hm
  exact ⟨adv, cav, e1, vs, hm⟩
theorem wyCosts2_c (ad : Option Addr) (cap : Nat) (M : List (List Int)) (w : World) (hr : RdM w ad M) (hs : sqB M = true) :
    Calls Try.prog 39 #[.slice ad M.length cap] w fun e w' => ∃ adv cav, e = .returned (.tuple #[.slice adv M.length cav, .bool (okW M)]) ∧ (∃ vs, MatO w' w.heap.size (.slice adv M.length cav) (disM M) vs) ∧ Below w.heap.size w w' := by
  obtain ⟨hn, hrow, hnum⟩ := sq_facts hs
  have h := wyCosts_c M.length ad cap (entM M) w (by rw [sq_toM hs]; exact hr) hn hnum
  rw [show okW M = okB M.length (entM M) by unfold okW; rw [hs, Bool.true_and]]
  exact h
theorem dis_len (M : List (List Int)) : (disM M).length = M.length := toM_len _ _
theorem dis_row (M : List (List Int)) {i : Nat} (h : i < M.length) : ((disM M).getD i []).length = M.length := by unfold disM; rw [toM_row _ h, tab_length]
def smM (M : List (List Int)) : Prop := M.length ≤ 100000 ∧ ∀ i, i < M.length → (M.getD i []).length ≤ 100000

set_option maxHeartbeats 1600000 in
theorem iWayCosts_c (ad : Option Addr) (cap : Nat) (M : List (List Int)) (w : World) (hr : RdM w ad M) (hl : smM M) :
    Calls Try.prog 7 #[.slice ad M.length cap] w (ManR (cosB M) (disM M) w) := by
  have C1 := Lib.hid (isSquare_c ad cap M w hr (by have := hl.1; omega) (fun i hi => by have := hl.2 i hi; omega))
  have C2 := Lib.hid (fun (hs : sqB M = true) (u : World) (hb : Below w.heap.size w u) => wayCosts2_c ad cap M u (hr.below hb) hs)
  unfold cosB
  have hok : sqB M = false → okW M = false := fun h => by unfold okW; rw [h]; rfl
  cases hs : sqB M
  · rw [hs] at C1
    rw [hok hs]
    clear hs hok hr C2
    go_enter Try.func7, Try.ntmps7
    go_wp2_with fail
    refine C1.out.mono ?_
    rintro e w1 ⟨rfl, hb1⟩
    go_wp2_with fail
    exact bodyPost_ret (v := .tuple #[.slice none 0 0, .bool false]) (by simp [results, Try.results7, go_sem]) rfl (ManR.no _ hb1)
  · rw [hs] at C1
    obtain ⟨hn, _, _⟩ := sq_facts hs
    have C2 := Lib.hid (C2.out hs)
    have CT := Lib.hid (fun (adv : Option Addr) (cav : Nat) (u : World) (h : RdM u adv (disM M)) => toldNumbers_c adv cav (disM M) u h (by rw [dis_len]; omega) (fun i hi => by rw [dis_len] at hi; rw [dis_row M hi]; omega))
    have hdl := dis_len M
    clear hs hok hr hl
    rw [hdl] at CT
    generalize disM M = D at C2 CT hdl ⊢
    generalize M.length = n at C1 C2 CT hdl hn ⊢
    have HDL := Lib.hid hdl; clear hdl
    generalize okW M = K at C2 ⊢
    obtain ⟨V, hV⟩ : ∃ V, nmB D = V := ⟨_, rfl⟩
    rw [hV] at CT ⊢
    clear hV
    cases K
    · go_enter Try.func7, Try.ntmps7
      go_wp2_with fail
      refine C1.out.mono ?_
      rintro e w1 ⟨rfl, hb1⟩
      go_wp2_with fail
      refine (C2.out _ hb1).mono ?_
      rintro e w2 ⟨_, he, hb2⟩
      obtain rfl := he trivial
      clear he
      go_wp2_with fail
      exact bodyPost_ret (v := .tuple #[.slice none 0 0, .bool false]) (by simp [results, Try.results7, go_sem]) rfl (ManR.no _ (ball hb1 hb2))
    · rw [Bool.true_and]
      go_enter Try.func7, Try.ntmps7
      go_wp2_with fail
      refine C1.out.mono ?_
      rintro e w1 ⟨rfl, hb1⟩
      go_wp2_with fail
      refine (C2.out _ hb1).mono ?_
      rintro e w2 ⟨he, _, hb2⟩
      obtain ⟨adv, cav, rfl, vs, hm⟩ := he trivial
      clear he
      have HRD := Lib.hid hm.rd
      have CT2 := Lib.hid (CT.out adv cav w2 HRD.out)
      clear hm CT
      cases V
      · go_wp2_with fail
        refine CT2.out.mono ?_
        rintro e w3 ⟨rfl, hb3⟩
        go_wp2_with fail
        exact bodyPost_ret (v := .tuple #[.slice none 0 0, .bool false]) (by simp [results, Try.results7, go_sem]) rfl (ManR.no _ (ball (ball hb1 hb2) hb3))
      · go_wp2_with fail
        refine CT2.out.mono ?_
        rintro e w3 ⟨rfl, hb3⟩
        go_wp2_with fail
        exact bodyPost_ret (v := .tuple #[.slice adv n cav, .bool true]) (by simp [results, Try.results7, go_sem]) rfl (ManR.yes (HRD.out.below hb3) HDL.out (ball (ball hb1 hb2) hb3))
set_option maxHeartbeats 1600000 in
theorem sWayCosts_c (ad : Option Addr) (cap : Nat) (M : List (List Int)) (w : World) (hr : RdM w ad M) (hl : smM M) :
    Calls Try.prog 8 #[.slice ad M.length cap] w (ManR (cosB M) (disM M) w) := by
  have C1 := Lib.hid (mxSquare_c ad cap M w hr (by have := hl.1; omega) (fun i hi => by have := hl.2 i hi; omega))
  have C2 := Lib.hid (fun (hs : sqB M = true) => wyCosts2_c ad cap M w hr hs)
  unfold cosB
  have hok : sqB M = false → okW M = false := fun h => by unfold okW; rw [h]; rfl
  cases hs : sqB M
  · rw [hs] at C1
    rw [hok hs]
    clear hs hok hr C2
    go_enter Try.func8, Try.ntmps8
    go_wp2_with fail
    refine C1.out.mono ?_
    rintro e w1 ⟨rfl, rfl⟩
    go_wp2_with fail
    exact bodyPost_ret (v := .tuple #[.slice none 0 0, .bool false]) (by simp [results, Try.results8, go_sem]) rfl (ManR.no _ (Below.refl _ _))
  · rw [hs] at C1
    obtain ⟨hn, _, _⟩ := sq_facts hs
    have C2 := Lib.hid (C2.out hs)
    have CT := Lib.hid (fun (adv : Option Addr) (cav : Nat) (u : World) (h : RdM u adv (disM M)) => wyGood_c adv cav (disM M) u h (by rw [dis_len]; omega) (fun i hi => by rw [dis_len] at hi; rw [dis_row M hi]; omega))
    have hdl := dis_len M
    clear hs hok hr hl
    rw [hdl] at CT
    generalize disM M = D at C2 CT hdl ⊢
    generalize M.length = n at C1 C2 CT hdl hn ⊢
    have HDL := Lib.hid hdl; clear hdl
    generalize okW M = K at C2 ⊢
    obtain ⟨V, hV⟩ : ∃ V, nmB D = V := ⟨_, rfl⟩
    rw [hV] at CT ⊢
    clear hV
    obtain ⟨R, hR⟩ : ∃ R, (K && V) = R := ⟨_, rfl⟩
    rw [hR]
    go_enter Try.func8, Try.ntmps8
    go_wp2_with fail
    refine C1.out.mono ?_
    rintro e w1 ⟨rfl, rfl⟩
    go_wp2_with fail
    refine (C2.out).mono ?_
    rintro e w2 ⟨adv, cav, rfl, ⟨vs, hm⟩, hb2⟩
    have HRD := Lib.hid hm.rd
    have CT2 := Lib.hid (CT.out adv cav w2 HRD.out)
    clear hm CT C1 C2
    cases K
    · obtain rfl : R = false := by rw [← hR]; rfl
      clear hR
      go_wp2_with fail
      exact bodyPost_ret (v := .tuple #[.slice none 0 0, .bool false]) (by simp [results, Try.results8, go_sem]) rfl (ManR.no _ hb2)
    · obtain rfl : R = V := by rw [← hR, Bool.true_and]
      clear hR
      cases R
      · go_wp2_with fail
        refine CT2.out.mono ?_
        rintro e w3 ⟨rfl, rfl⟩
        go_wp2_with fail
        exact bodyPost_ret (v := .tuple #[.slice none 0 0, .bool false]) (by simp [results, Try.results8, go_sem]) rfl (ManR.no _ hb2)
      · go_wp2_with fail
        refine CT2.out.mono ?_
        rintro e w3 ⟨rfl, rfl⟩
        go_wp2_with fail
        exact bodyPost_ret (v := .tuple #[.slice adv n cav, .bool true]) (by simp [results, Try.results8, go_sem]) rfl (ManR.yes HRD.out HDL.out hb2)

end Go.Proofs.Ytbffcbjbeeagmaa
