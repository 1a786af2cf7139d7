/-
  Proved assignments: the program's. By an AI agent.
-/
import Derived.Test.YtjlkgioinogbkaaAsI
namespace Go.Proofs.Ytjlkgioinogbkaa
open Go.RowKit

set_option maxHeartbeats 3200000 in
set_option maxRecDepth 100000 in
theorem iProvedBest_c (ad : Option Addr) (cap : Nat) (M : List (List Int)) (adA : Option Addr) (cA : Nat) (a : List Int) (adu : Option Addr) (cu : Nat) (u : List Int) (adv : Option Addr) (cv : Nat) (v : List Int) (w : World) (hr : RdM w ad M) (hl : smM M) (hA : RdI w adA a) (hu : RdI w adu u) (hul : u.length ≤ 1048576) (hv : RdI w adv v) (hvl : v.length ≤ 1048576) :
    Calls Try.prog 14 #[.slice ad M.length cap, .slice adA a.length cA, .slice adu u.length cu, .slice adv v.length cv] w fun e w' => e = .returned (.tuple #[.bool (pvB M a u v), .bool (pvX M a u v)]) ∧ Below w.heap.size w w' := by
  have C1 := Lib.hid (iArePrices_c ad cap M adu cu u adv cv v w hr hl hu hul hv hvl)
  have C2 := Lib.hid (fun (h : askP M u v = true) x (hb : Below w.heap.size w x) => isAssignment_c M.length ad cap adA cA a x (hA.below hb) (sq_facts (askP_t h).1).1)
  have C3 := Lib.hid (fun (h : askP M u v = true) (h2 : asgB M.length a = true) x (hb : Below w.heap.size w x) => by
    obtain ⟨hn, _, hnum⟩ := sq_facts (askP_t h).1
    obtain ⟨g1, g2⟩ := asg_ndp h2
    have hr2 := hr.below hb
    rw [← sq_toM (askP_t h).1] at hr2
    exact (show Calls Try.prog 35 #[.slice ad M.length cap, .slice adA a.length cA] x _ by rw [g1]; exact costOf_c M.length ad cap (entM M) adA cA a x hr2 (hA.below hb) hn g1 g2.vt hnum))
  have HF := Lib.hid (fun (h : askP M u v = true) (h2 : asgB M.length a = true) => fin_cost (askP_t h).1 h2)
  have hsum : ∀ l : List Int, oneP M l = true → M.length ≤ 6 → (∀ i, i < l.length → -2000000000 ≤ l.getD i 0 ∧ l.getD i 0 ≤ 2000000000) ∧ -6000000 ≤ lsm l ∧ lsm l ≤ 6000000 := fun l h h6 => by
    obtain ⟨g1, g2⟩ := oneP_t h
    have g3 := smN_bd (f := fun i => l.getD i 0) (K := 1000000) (t := l.length) (fun i hi => g2 i (by omega))
    refine ⟨fun i hi => by have := g2 i (by omega); omega, ?_, ?_⟩ <;> (unfold lsm; omega)
  have C5 := Lib.hid (fun (h : askP M u v = true) x (hb : Below w.heap.size w x) => total_c adu cu u x (hu.below hb) (by have := (oneP_t (askP_t h).2.1).1; have := (sq_facts (askP_t h).1).1; omega) (hsum u (askP_t h).2.1 (sq_facts (askP_t h).1).1.2).1)
  have C6 := Lib.hid (fun (h : askP M u v = true) x (hb : Below w.heap.size w x) => total_c adv cv v x (hv.below hb) (by have := (oneP_t (askP_t h).2.2).1; have := (sq_facts (askP_t h).1).1; omega) (hsum v (askP_t h).2.2 (sq_facts (askP_t h).1).1.2).1)
  have HSM := Lib.hid (fun (h : askP M u v = true) => show (-6000000 ≤ lsm u ∧ lsm u ≤ 6000000) ∧ -6000000 ≤ lsm v ∧ lsm v ≤ 6000000 from ⟨(hsum u (askP_t h).2.1 (sq_facts (askP_t h).1).1.2).2, (hsum v (askP_t h).2.2 (sq_facts (askP_t h).1).1.2).2⟩)
  unfold pvB pvX prcB at *
  clear hr hl hA hu hul hv hvl hsum
  generalize prcQ M.length (entM M) u v = Q at C1 ⊢
  generalize askP M u v = K at C1 C2 C3 C5 C6 HF HSM ⊢
  generalize costP (entM M) a = X at C3 HF ⊢
  generalize finP (entM M) a = F at HF ⊢
  generalize asgB M.length a = G at C2 C3 HF ⊢
  generalize lsm u = su at C5 HSM ⊢
  generalize lsm v = sv at C6 HSM ⊢
  generalize M.length = n at C1 C2 C3 ⊢
  generalize a.length = na at C2 C3 ⊢
  generalize u.length = nu at C1 C5 ⊢
  generalize v.length = nv at C1 C6 ⊢
  cases K
  · clear C2 C3 C5 C6 HF HSM
    go_enter Try.func14, Try.ntmps14
    go_wp2_with fail
    refine C1.out.mono ?_
    rintro e w1 ⟨rfl, hb1⟩
    go_wp2_with fail
    go_ret2
    exact ⟨rfl, hb1⟩
  · have D2 := Lib.hid (C2.out rfl)
    cases G
    · clear C3 C5 C6 HF HSM
      go_enter Try.func14, Try.ntmps14
      go_wp2_with fail
      refine C1.out.mono ?_
      rintro e w1 ⟨rfl, hb1⟩
      go_wp2_with fail
      refine (D2.out _ hb1).mono ?_
      rintro e w2 ⟨rfl, hb2⟩
      have hb3 := ball hb1 hb2
      go_wp2_with fail
      go_ret2
      exact ⟨rfl, hb3⟩
    · have D3 := Lib.hid (C3.out rfl rfl)
      have D5 := Lib.hid (C5.out rfl)
      have D6 := Lib.hid (C6.out rfl)
      obtain ⟨hF, hX⟩ := HF.out rfl rfl
      obtain ⟨⟨s1, s2⟩, s3, s4⟩ := HSM.out rfl
      clear C2 C3 C5 C6 HF HSM
      cases F
      · have g1 : (X == 1000000000) = true := hF
        clear hX D5 D6
        go_enter Try.func14, Try.ntmps14
        go_wp2_with fail
        refine C1.out.mono ?_
        rintro e w1 ⟨rfl, hb1⟩
        go_wp2_with fail
        refine (D2.out _ hb1).mono ?_
        rintro e w2 ⟨rfl, hb2⟩
        have hb3 := ball hb1 hb2
        go_wp2_with fail
        refine (D3.out _ hb3).mono ?_
        rintro e w3 ⟨rfl, hb4⟩
        have hb5 := ball hb3 hb4
        go_wp2_with fail
        go_ret2
        exact ⟨rfl, hb5⟩
      · have g1 : (X == 1000000000) = false := hF
        clear hX
        have HDE := Lib.hid (show (su + sv == X) = decide (su + sv = X) from rfl)
        have e1 : IntKind.i64.wrap (su + sv) = su + sv := i64_small (by omega) (by omega)
        clear s1 s2 s3 s4
        cases Q
        · clear D5 D6
          go_enter Try.func14, Try.ntmps14
          go_wp2_with fail
          refine C1.out.mono ?_
          rintro e w1 ⟨rfl, hb1⟩
          go_wp2_with fail
          refine (D2.out _ hb1).mono ?_
          rintro e w2 ⟨rfl, hb2⟩
          have hb3 := ball hb1 hb2
          go_wp2_with fail
          refine (D3.out _ hb3).mono ?_
          rintro e w3 ⟨rfl, hb4⟩
          have hb5 := ball hb3 hb4
          go_wp2_with fail
          go_ret2
          exact ⟨rfl, hb5⟩
        · go_enter Try.func14, Try.ntmps14
          go_wp2_with fail
          refine C1.out.mono ?_
          rintro e w1 ⟨rfl, hb1⟩
          go_wp2_with fail
          refine (D2.out _ hb1).mono ?_
          rintro e w2 ⟨rfl, hb2⟩
          have hb3 := ball hb1 hb2
          go_wp2_with fail
          refine (D3.out _ hb3).mono ?_
          rintro e w3 ⟨rfl, hb4⟩
          have hb5 := ball hb3 hb4
          go_wp2_with fail
          refine (D5.out _ hb5).mono ?_
          rintro e w4 ⟨rfl, rfl⟩
          go_wp2_with fail
          refine (D6.out _ hb5).mono ?_
          rintro e w4 ⟨rfl, rfl⟩
          go_wp2_with fail
          refine (D3.out _ hb5).mono ?_
          rintro e w5 ⟨rfl, hb6⟩
          have hb7 := ball hb5 hb6
          obtain ⟨E, hE⟩ : ∃ E, (su + sv == X) = E := ⟨_, rfl⟩
          have HEE := Lib.hid hE
          go_wp2_with fail
          refine bodyPost_ret (v := .tuple #[.bool E, .bool true]) (by simp [results, Try.results14, go_sem]) rfl ?_
          exact ⟨by rw [← HEE.out, HDE.out]; rfl, hb7⟩
end Go.Proofs.Ytjlkgioinogbkaa
