/-
  Sums of stars, scaled and mapped stars: the reference's. By an AI agent.
-/
import Derived.Test.YtlplodkabeiimaaStG
import Derived.Test.YtlplodkabeiimaaAll
namespace Go.Proofs.Ytlplodkabeiimaa
open Go.RowKit

def fputs (b a : List Ry) : List Ry := b.foldl (fun l r => putR r l) a
theorem putR_len (r : Ry) : ∀ l : List Ry, (putR r l).length ≤ l.length + 1
  | [] => by simp [putR]
  | a :: t => by
    rw [putR]
    have := putR_len r t
    split
    · simp; omega
    · split <;> simp
theorem putR_w {r : Ry} {K M : Int} (hK : 0 ≤ K) (hM : 0 ≤ M) (hr : -M ≤ r.w ∧ r.w ≤ M) : ∀ {l : List Ry}, (∀ a ∈ l, -K ≤ a.w ∧ a.w ≤ K) → ∀ a ∈ putR r l, -(K + M) ≤ a.w ∧ a.w ≤ K + M
  | [], _, a, ha => by
    rw [putR, List.mem_singleton] at ha
    subst ha
    omega
  | q :: t, h, a, ha => by
    have hq := h q List.mem_cons_self
    rw [putR] at ha
    split at ha
    · rcases List.mem_cons.1 ha with rfl | ha
      · omega
      · exact putR_w hK hM hr (fun a ha => h a (List.mem_cons_of_mem _ ha)) a ha
    · split at ha
      · rcases List.mem_cons.1 ha with rfl | ha
        · omega
        · have := h a ha
          omega
      · rcases List.mem_cons.1 ha with rfl | ha
        · simp only; omega
        · have := h a (List.mem_cons_of_mem _ ha)
          omega
theorem fputs_snoc (b a : List Ry) (r : Ry) : fputs (b ++ [r]) a = putR r (fputs b a) := by simp [fputs]
theorem fputs_take {b : List Ry} (a : List Ry) {k : Nat} (h : k < b.length) : fputs (b.take (k + 1)) a = putR (b.getD k default) (fputs (b.take k) a) := by
  rw [takeR_snoc b k h, fputs_snoc]
theorem fputs_len : ∀ (b a : List Ry), (fputs b a).length ≤ a.length + b.length
  | [], a => by simp [fputs]
  | r :: b, a => by
    have h1 := fputs_len b (putR r a)
    have h2 := putR_len r a
    unfold fputs at *
    rw [List.foldl_cons, List.length_cons]
    omega
theorem fputs_w {M : Int} (hM : 0 ≤ M) : ∀ {b a : List Ry} {K : Int}, 0 ≤ K → (∀ r ∈ b, -M ≤ r.w ∧ r.w ≤ M) → (∀ r ∈ a, -K ≤ r.w ∧ r.w ≤ K) → ∀ r ∈ fputs b a, -(K + M * b.length) ≤ r.w ∧ r.w ≤ K + M * b.length
  | [], a, K, _, _, ha => by simpa [fputs] using ha
  | p :: b, a, K, hK, hb, ha => by
    intro r hr
    have h1 := fputs_w hM (b := b) (a := putR p a) (K := K + M) (by omega) (fun r hr => hb r (List.mem_cons_of_mem _ hr)) (putR_w hK hM (hb p List.mem_cons_self) ha) r hr
    rw [List.length_cons, Int.natCast_add, Int.mul_add]
    omega

/-- What a function gives that tells a star. -/
def StarR (w' : World) (e : Ending) (B : Bool) (S : List Ry) : Prop := ∃ ad cap, e = .returned (toldV B (.slice ad S.length cap)) ∧ (B = true → RdY w' ad S ∧ SY ad S.length cap)
theorem starR_no (w' : World) (S : List Ry) : StarR w' (.returned (.tuple #[.slice none 0 0, .bool false])) false S := ⟨none, 0, rfl, fun h => by cases h⟩
def addR (a b : List Ry) : List Ry := fputs b a
def addB (a b : List Ry) : Bool := (starB a && starB b) && starB (addR a b)

set_option maxHeartbeats 1600000 in
set_option maxRecDepth 100000 in
theorem sAddStars_c (ad1 ad2 : Option Addr) (c1 c2 : Nat) (a b : List Ry) (w : World) (hr1 : RdY w ad1 a) (hs1 : SY ad1 a.length c1) (hl1 : a.length ≤ 1048576) (hr2 : RdY w ad2 b) (hl2 : b.length ≤ 1048576) :
    Calls Try.prog 7 #[.slice ad1 a.length c1, .slice ad2 b.length c2] w fun e w' => StarR w' e (addB a b) (addR a b) ∧ Below w.heap.size w w' := by
  have CA := Lib.hid (stGood_c ad1 c1 a w hr1 hl1)
  have CB := Lib.hid (fun w' (hw : Below w.heap.size w w') => stGood_c ad2 c2 b w' (hr2.below hw) hl2)
  unfold addB
  cases hua : starB a
  · rw [hua] at CA
    clear hua hr1 hr2 hs1
    go_enter Try.func7, Try.ntmps7
    go_wp2_with fail
    refine (CA.out).mono ?_
    rintro e w1 ⟨rfl, hw1⟩
    go_wp2_with fail
    exact bodyPost_ret (v := .tuple #[.slice none 0 0, .bool false]) (by simp [results, Try.results7, go_sem]) rfl ⟨starR_no _ _, hw1⟩
  · rw [hua] at CA
    cases hub : starB b
    · rw [hub] at CB
      clear hua hub hr1 hr2 hs1
      go_enter Try.func7, Try.ntmps7
      go_wp2_with fail
      refine (CA.out).mono ?_
      rintro e w1 ⟨rfl, hw1⟩
      go_wp2_with fail
      refine (CB.out _ hw1).mono ?_
      rintro e w2 ⟨rfl, hw2⟩
      go_wp2_with fail
      exact bodyPost_ret (v := .tuple #[.slice none 0 0, .bool false]) (by simp [results, Try.results7, go_sem]) rfl ⟨starR_no _ _, ball hw1 hw2⟩
    · rw [hub] at CB
      obtain ⟨la, ya, _⟩ := star_of hua
      obtain ⟨lb, yb, _⟩ := star_of hub
      have WA : ∀ r ∈ a, (-20 : Int) ≤ r.w ∧ r.w ≤ 20 := fun r hr => by have := ry_of (ya r hr); omega
      have WB : ∀ r ∈ b, (-20 : Int) ≤ r.w ∧ r.w ≤ 20 := fun r hr => by have := ry_of (yb r hr); omega
      have HWA := Lib.hid WA; have HWB := Lib.hid WB
      have HX := Lib.hid (fun (u : World) (h : Below w.heap.size w u) => readsOf (hr1.below h) rfl hs1)
      have HR2 := Lib.hid hr2
      clear hua hub ya yb WA WB hr1 hs1 hr2
      simp only [Bool.true_and]
      go_enter Try.func7, Try.ntmps7
      go_wp2_with fail
      refine (CA.out).mono ?_
      rintro e w1 ⟨rfl, hw1⟩
      go_wp2_with fail
      refine (CB.out _ hw1).mono ?_
      rintro e w2 ⟨rfl, hw2⟩
      have hb2 := ball hw1 hw2
      clear hw1 hw2
      have HO := Lib.hid (rowY_new w2 w.heap.size w2.heap.size hb2.size rfl)
      have HXX := Lib.hid ((HX.out _ hb2).alloc' (o := .cells #[] 35))
      have hsz := hb2.size
      go_wp2_with (at_builtin; refine wpList_appY rfl _ _ rfl w.heap.size _ _ [] a a.length (by simp) rfl rfl HO.out HXX.out (by simp) (by omega) (by simp; omega) ?_; intro ad5 cap5 wm hown hsy hbm)
      have hb3 := (bal_alloc (o := .cells #[] 35) hb2).trans hbm
      rw [List.nil_append] at hown
      have HO1 := Lib.hid hown
      clear hown hsy hbm hb2 HO HXX hsz
      go_wp2_with fail
      go_loopw [6, 22] (fun v i wr => ∃ k : Nat, k ≤ b.length ∧ i = .int .i64 k ∧ RowY wr w.heap.size v (fputs (b.take k) a) ∧ Below w.heap.size w wr) (fun _ i _ => b.length - (intOf i).toNat)
      case atStart => exact ⟨0, Nat.zero_le _, rfl, by simpa [fputs] using HO1.out, hb3⟩
      case round =>
        obtain ⟨wE, rfl⟩ : ∃ x : World, x = wr := ⟨_, rfl⟩
        obtain ⟨k, hk, rfl, hrow, hbel⟩ := hrel
        obtain ⟨adv, cav, rfl, hsy⟩ := hrow.sy
        have hfl := fputs_len (b.take k) a
        rw [List.length_take] at hfl
        have HO := Lib.hid hrow; have HS := Lib.hid hsy
        clear hrow hsy
        by_cases hlt : k < b.length
        case neg =>
          obtain rfl : k = b.length := by omega
          rw [List.take_length] at HO HS hfl ⊢
          have e0 : fputs b a = addR a b := rfl
          rw [e0] at HO HS hfl ⊢
          have CI := Lib.hid (stIf_c adv cav (addR a b) wE HO.out.rd (by omega))
          clear e0
          obtain ⟨N, hN⟩ : ∃ n, (addR a b).length = n := ⟨_, rfl⟩
          rw [hN] at CI ⊢
          have HN := Lib.hid hN; clear hN
          go_wp2_with fail
          refine CI.out.mono ?_
          rintro e w4 ⟨rfl, hw4⟩
          unfold toldV
          cases hz : starB (addR a b)
          · go_wp2_with fail
            exact bodyPost_ret (v := .tuple #[.slice none 0 0, .bool false]) (by simp [results, Try.results7, go_sem]) rfl ⟨by rw [hz]; exact starR_no _ _, ball hbel hw4⟩
          · go_wp2_with fail
            exact bodyPost_ret (v := .tuple #[.slice adv N cav, .bool true]) (by simp [results, Try.results7, go_sem]) rfl ⟨⟨adv, cav, by rw [hz, HN.out]; rfl, fun _ => ⟨(HO.out.below hw4).rd, HS.out⟩⟩, ball hbel hw4⟩
        case pos =>
          obtain ⟨bb, off, rfl, hb, x0, x1, x2⟩ := HR2.out k hlt
          have x0 := bcell hbel hb x0
          have x1 := bcell hbel hb x1
          have x2 := bcell hbel hb x2
          have hnx := fputs_take a hlt
          have hwr := HWB.out _ (getD_mem hlt)
          have hwf := fputs_w (M := 20) (K := 20) (by omega) (by omega) (b := b.take k) (a := a) (fun r hr => HWB.out r (List.mem_of_mem_take hr)) HWA.out
          have hwf2 : ∀ r ∈ fputs (b.take k) a, (-1000000000 : Int) ≤ r.w ∧ r.w ≤ 1000000000 := fun r hr => by
            have := hwf r hr
            rw [List.length_take] at this
            omega
          generalize hrr : b.getD k default = r at hnx hwr x0 x1 x2
          clear hrr hwf
          have hbE : bb < wE.heap.size := Nat.lt_of_lt_of_le hb hbel.size
          have y1 : (0 : Int) ≤ (k : Int) := by omega
          have y2 : (k : Int) < (b.length : Int) := by omega
          have CP := Lib.hid (fun (u : World) (h : Below wE.heap.size wE u) => stPut_c adv cav (fputs (b.take k) a) r u (HO.out.below h).rd HS.out (by omega) hwf2 (by omega))
          have HNX := Lib.hid hnx
          clear hnx hwr hwf2
          obtain ⟨rx, ry, rw'⟩ := r
          unfold ryV at CP
          simp only at x0 x1 x2
          obtain ⟨N, hN⟩ : ∃ n, (fputs (b.take k) a).length = n := ⟨_, rfl⟩
          rw [hN] at CP ⊢
          clear hN hfl
          go_wp2_with fail
          have hbA : Below wE.heap.size wE (wE.alloc (.cells #[.int .i64 rx, .int .i64 ry, .int .i64 rw'] 35)) := (Below.refl _ _).alloc (Nat.le_refl _) _
          refine (CP.out _ hbA).mono ?_
          rintro e w5 ⟨v5, rfl, hrow5, hw5⟩
          have hrow6 := hrow5.mono (ball hbel hbA).size
          rw [← HNX.out] at hrow6
          have HR6 := Lib.hid hrow6
          have hb6 := ball (ball hbel hbA) hw5
          clear hrow5 hrow6 hw5
          go_wp2_with fail
          go_roundw
          case rel => exact ⟨k + 1, by omega, by go_num, HR6.out, hb6⟩
          case measure => simp [intOf]; omega

end Go.Proofs.Ytlplodkabeiimaa
