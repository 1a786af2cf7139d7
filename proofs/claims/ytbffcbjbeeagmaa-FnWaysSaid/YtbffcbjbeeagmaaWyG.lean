/-
  Potentials: program and reference. By an AI agent.
-/
import Derived.Test.YtbffcbjbeeagmaaWyE
import Derived.Deep.DeepCutAuto
namespace Go.Proofs.Ytbffcbjbeeagmaa
open Go.RowKit

def potF (M : List (List Int)) (k : Nat) : Int := mnF 1000000000 (fun i => bf M.length (entM M) M.length i k) M.length
def potL (M : List (List Int)) : List Int := tab M.length (potF M)
def potB (M : List (List Int)) : Bool := okW M && (potL M).all numB
def onL (B : Bool) (X : List Int) : List Int := if B = true then X else []
def LisR (B : Bool) (X : List Int) (w : World) (e : Ending) (w' : World) : Prop := ∃ ad cap, e = .returned (.tuple #[.slice ad (onL B X).length cap, .bool B]) ∧ RdI w' ad (onL B X) ∧ Below w.heap.size w w'
theorem LisR.no {w w' : World} (X : List Int) (hb : Below w.heap.size w w') : LisR false X w (.returned (.tuple #[.slice none 0 0, .bool false])) w' := ⟨none, 0, rfl, RdI.nil _ _, hb⟩
theorem LisR.yes {w w' : World} {ad : Option Addr} {cap n : Nat} {X : List Int} (h : RdI w' ad X) (hn : X.length = n) (hb : Below w.heap.size w w') : LisR true X w (.returned (.tuple #[.slice ad n cap, .bool true])) w' := by
  subst hn
  exact ⟨ad, cap, rfl, h, hb⟩
theorem pot_le {M : List (List Int)} (_hs : sqB M = true) {k : Nat} (hk : k < M.length) : potF M k ≤ 0 := by
  have h1 := mnF_le 1000000000 (fun i => bf M.length (entM M) M.length i k) hk
  have h2 := bf_mono (n := M.length) (m := entM M) (Nat.zero_le M.length) k k
  rw [bf_zero] at h2
  unfold unF at h2
  rw [if_pos rfl] at h2
  unfold potF
  omega
/-- No potential is Infinity. -/
theorem pot_num {M : List (List Int)} (hs : sqB M = true) : (potL M).all numB = allB (potL M) (-1000000) 1000000 := by
  unfold allB
  rw [Bool.eq_iff_iff, List.all_eq_true, List.all_eq_true]
  have h : ∀ x ∈ potL M, x ≤ 0 := fun x hx => by
    unfold potL tab at hx
    obtain ⟨k, hk, rfl⟩ := List.mem_map.1 hx
    exact pot_le hs (by simpa using hk)
  constructor
  · intro h1 x hx
    have := numB_t (h1 x hx)
    have := h x hx
    exact inB_t.2 (by omega)
  · intro h1 x hx
    have := inB_t.1 (h1 x hx)
    unfold numB
    rw [inB_t.2 (by omega)]
    rfl

set_option maxHeartbeats 3200000 in
set_option maxRecDepth 100000 in
theorem iPotentials_c (ad : Option Addr) (cap : Nat) (M : List (List Int)) (w : World) (hr : RdM w ad M) (hl : smM M) :
    Calls Try.prog 20 #[.slice ad M.length cap] w (LisR (potB M) (potL M) w) := by
  have C1 := Lib.hid (isSquare_c ad cap M w hr (by have := hl.1; omega) (fun i hi => by have := hl.2 i hi; omega))
  have C2 := Lib.hid (fun (hs : sqB M = true) (u : World) (hb : Below w.heap.size w u) => wayCosts2_c ad cap M u (hr.below hb) hs)
  unfold potB
  have hok : sqB M = false → okW M = false := fun h => by unfold okW; rw [h]; rfl
  cases hs : sqB M
  · rw [hs] at C1
    rw [hok hs]
    clear hs hok hr C2
    go_enter Try.func20, Try.ntmps20
    go_wp2_with fail
    refine C1.out.mono ?_
    rintro e w1 ⟨rfl, hb1⟩
    go_wp2_with fail
    exact bodyPost_ret (v := .tuple #[.slice none 0 0, .bool false]) (by simp [results, Try.results20, go_sem]) rfl (LisR.no _ hb1)
  · rw [hs] at C1
    obtain ⟨hn, _, _⟩ := sq_facts hs
    have C2 := Lib.hid (C2.out hs)
    have hdis : disM M = toM M.length (bf M.length (entM M) M.length) := rfl
    have hpl : potL M = tab M.length (potF M) := rfl
    have hpf : ∀ k, potF M k = mnF 1000000000 (fun i => bf M.length (entM M) M.length i k) M.length := fun _ => rfl
    clear hs hok hr hl
    rw [hdis] at C2
    clear hdis
    generalize bf M.length (entM M) M.length = F at C2 hpf
    generalize potF M = PF at hpl hpf
    generalize potL M = PL at hpl ⊢
    generalize M.length = n at C1 C2 hpl hpf hn ⊢
    have HPF := Lib.hid hpf
    have HPL := Lib.hid hpl
    have hpln : PL.length = n := by rw [hpl, tab_length]
    have HPN := Lib.hid hpln
    clear hpl hpf hpln
    generalize okW M = K at C2 ⊢
    obtain ⟨V, hV⟩ : ∃ V, PL.all numB = V := ⟨_, rfl⟩
    rw [hV]
    have HV := Lib.hid hV; clear hV
    cases K
    · go_enter Try.func20, Try.ntmps20
      go_wp2_with fail
      refine C1.out.mono ?_
      rintro e w1 ⟨rfl, hb1⟩
      go_wp2_with fail
      refine (C2.out _ hb1).mono ?_
      rintro e w2 ⟨_, he, hb2⟩
      obtain rfl := he trivial
      clear he
      go_wp2_with fail
      exact bodyPost_ret (v := .tuple #[.slice none 0 0, .bool false]) (by simp [results, Try.results20, go_sem]) rfl (LisR.no _ (ball hb1 hb2))
    · rw [Bool.true_and]
      go_enter Try.func20, Try.ntmps20
      go_wp2_with fail
      refine C1.out.mono ?_
      rintro e w1 ⟨rfl, hb1⟩
      go_wp2_with fail
      refine (C2.out _ hb1).mono ?_
      rintro e w2 ⟨he, _, hb2⟩
      obtain ⟨adv, cav, rfl, vs, hm⟩ := he trivial
      clear he
      have hb3 := ball hb1 hb2
      have hb4 := bal_alloc (o := .cells #[] 3) hb3
      have HRD := Lib.hid (hm.rd.below ((Below.refl _ _).alloc (Nat.le_refl _) (.cells #[] 3)))
      have HO := Lib.hid (rowI_new w2 w.heap.size w2.heap.size hb3.size rfl)
      have hg3 : w2.heap.size < (w2.alloc (.cells #[] 3)).heap.size := by simp
      clear hm hb1 hb2
      go_upto_region 7 with fail
      obtain ⟨g0, hg⟩ : ∃ g0, w2.heap.size = g0 := ⟨_, rfl⟩
      generalize w2.alloc (.cells #[] 3) = w3 at hb4 HRD HO hg3 ⊢
      rw [hg] at HO hg3 ⊢
      clear hg hb3
      have CT := Lib.hid (transposed_c n adv cav F w3 HRD.out hn)
      go_wp2_with fail
      refine CT.out.mono ?_
      rintro e w4 ⟨gT, rfl, ⟨vT, hrdT⟩, hb5⟩
      have HT := Lib.hid hrdT
      have HLW := Lib.hid hrdT.low
      have hz34 : w3.heap.size ≤ w4.heap.size := hb5.size
      have hb6 := ball hb4 hb5
      have HO2 := Lib.hid (HO.out.below hb5)
      clear hrdT hb5 HRD HO CT C1 C2
      go_wp2_with fail
      go_loopw [6, 23] (fun v i wr => ∃ k : Nat, k ≤ n ∧ i = .int .i64 k ∧ RowI wr w.heap.size v ((tab n PF).take k) ∧ (∀ q, v.ownBlock = some q → q = g0 ∨ w4.heap.size ≤ q) ∧ w4.heap.size ≤ wr.heap.size ∧ Below w.heap.size w wr ∧ TrO wr w3.heap.size gT n (fun i => tab n fun j => F j i) vT) (fun _ i _ => n - (intOf i).toNat)
      case atStart => exact ⟨0, Nat.zero_le _, rfl, HO2.out, fun q hq => (by cases hq; exact Or.inl rfl), Nat.le_refl _, hb6, HT.out⟩
      case round =>
        obtain ⟨wE, rfl⟩ : ∃ x : World, x = wr := ⟨_, rfl⟩
        obtain ⟨k, hk, rfl, hrow, hblk, hz4, hbel, hrd⟩ := hrel
        have HRT := Lib.hid hrd; clear hrd
        have HBK := Lib.hid hblk; clear hblk
        have htl := tab_takeL n PF hk
        clear HT HO2
        by_cases hlt : k < n
        case neg =>
          obtain rfl : k = n := by omega
          rw [tab_all, ← HPL.out] at hrow
          obtain ⟨ad5, cap5, rfl, hrd5⟩ := hrow.shape
          have CL := toldList_c ad5 cap5 PL wE hrd5 (by rw [HPN.out]; omega)
          rw [HV.out, HPN.out] at CL
          rw [HPN.out]
          have HCL := Lib.hid CL
          have HR5 := Lib.hid hrd5
          clear CL hrow hrd5
          cases V
          · go_wp2_with fail
            refine HCL.out.mono ?_
            rintro e w5 ⟨rfl, rfl⟩
            go_wp2_with fail
            exact bodyPost_ret (v := .tuple #[.slice none 0 0, .bool false]) (by simp [results, Try.results20, go_sem]) rfl (LisR.no _ hbel)
          · go_wp2_with fail
            refine HCL.out.mono ?_
            rintro e w5 ⟨rfl, rfl⟩
            go_wp2_with fail
            exact bodyPost_ret (v := .tuple #[.slice ad5 k cap5, .bool true]) (by simp [results, Try.results20, go_sem]) rfl (LisR.yes HR5.out HPN.out hbel)
        case pos =>
          obtain ⟨_, _, e1, hgT, hrw⟩ := (HRT.out.rd (F := fun i j => F j i) (by omega)).rowF (by omega)
          cases e1
          obtain ⟨b2, o2, c2, e2, hl2, hc2⟩ := hrw k hlt
          rw [Nat.zero_add] at e2
          have hri : RdI wE (some ⟨b2, o2, none⟩) (tab n fun j => F j k) := fun j hj => by
            rw [tab_length] at hj
            exact ⟨b2, o2, rfl, hl2, by rw [tab_getD hj]; exact hc2 j hj⟩
          have CS := sumOf_c (some ⟨b2, o2, none⟩) c2 (tab n fun j => F j k) wE hri (by rw [tab_length]; omega)
          rw [tab_length, mnF_congr (b := 1000000000) (g := fun i => F i k) rfl (fun j hj => tab_getD hj 0), ← HPF.out k] at CS
          have hsn := tab_takeS n PF hlt
          have HSN := Lib.hid hsn
          have HCS := Lib.hid CS
          have HO := Lib.hid hrow
          have hsz := hbel.size
          have x1 : (0 : Int) ≤ (k : Int) := by omega
          have x2 : (k : Int) < (n : Int) := by omega
          clear hri CS hsn hrw hc2 hrow
          generalize PF k = P at HCS HSN
          generalize (tab n PF).take k = L at HSN HO htl
          go_wp2_with fail
          refine HCS.out.mono ?_
          rintro e w5 ⟨rfl, rfl⟩
          go_wp2_with (at_builtin; refine wpList_appB rfl _ _ rfl w.heap.size _ 0 1 _ L [P] (k + 1) (by rw [htl]; rfl) rfl rfl (RowI.alloc' HO.out) (rdI_one _ _ _ rfl) (by omega) (by simp) (by simp; omega) ?_; intro v5 wm hown hsh hbm hgr hb5)
          have hb3 := (bal_alloc (o := .cells #[.int .i64 P] 3) hbel).trans hbm
          rw [← HSN.out] at hown
          have hrd9 := (HRT.out.below ((Below.refl _ _).alloc (Nat.le_refl _) (.cells #[.int .i64 P] 3))).grown HLW.out hgr (fun q hq => by have := HBK.out q hq; omega)
          have hbk9 : ∀ q, v5.ownBlock = some q → q = g0 ∨ w4.heap.size ≤ q := fun q hq => by
            rcases hb5 with h | h
            · rw [h] at hq; exact HBK.out q hq
            · rw [h] at hq
              cases hq
              right
              simp
              omega
          have hz9 := hgr.size
          simp at hz9
          have HO5 := Lib.hid hown; have HR9 := Lib.hid hrd9; have HB9 := Lib.hid hbk9; clear hown hsh hgr hbm hrd9 hbk9 hb5
          go_wp2_with fail
          go_roundw
          case rel => exact ⟨k + 1, by omega, by go_num, HO5.out, HB9.out, by omega, hb3, HR9.out⟩
          case measure => simp [intOf]; omega

set_option maxHeartbeats 3200000 in
set_option maxRecDepth 100000 in
theorem sPotentials_c (ad : Option Addr) (cap : Nat) (M : List (List Int)) (w : World) (hr : RdM w ad M) (hl : smM M) :
    Calls Try.prog 21 #[.slice ad M.length cap] w (LisR (potB M) (potL M) w) := by
  have C1 := Lib.hid (mxSquare_c ad cap M w hr (by have := hl.1; omega) (fun i hi => by have := hl.2 i hi; omega))
  have C2 := Lib.hid (fun (hs : sqB M = true) => wyCosts2_c ad cap M w hr hs)
  unfold potB
  have hok : sqB M = false → okW M = false := fun h => by unfold okW; rw [h]; rfl
  cases hs : sqB M
  · rw [hs] at C1
    rw [hok hs]
    clear hs hok hr C2
    go_enter Try.func21, Try.ntmps21
    go_wp2_with fail
    refine C1.out.mono ?_
    rintro e w1 ⟨rfl, rfl⟩
    go_wp2_with fail
    exact bodyPost_ret (v := .tuple #[.slice none 0 0, .bool false]) (by simp [results, Try.results21, go_sem]) rfl (LisR.no _ (Below.refl _ _))
  · rw [hs] at C1
    obtain ⟨hn, _, _⟩ := sq_facts hs
    have C2 := Lib.hid (C2.out hs)
    have hdis : disM M = toM M.length (bf M.length (entM M) M.length) := rfl
    have hpl : potL M = tab M.length (potF M) := rfl
    have hpf : ∀ k, potF M k = mnF 1000000000 (fun i => bf M.length (entM M) M.length i k) M.length := fun _ => rfl
    have hnum := pot_num hs
    clear hs hok hr hl
    rw [hdis] at C2
    clear hdis
    generalize bf M.length (entM M) M.length = F at C2 hpf
    generalize potF M = PF at hpl hpf
    generalize potL M = PL at hpl hnum ⊢
    generalize M.length = n at C1 C2 hpl hpf hn ⊢
    have HPF := Lib.hid hpf
    have HPL := Lib.hid hpl
    have hpln : PL.length = n := by rw [hpl, tab_length]
    have HPN := Lib.hid hpln
    clear hpl hpf hpln
    generalize okW M = K at C2 ⊢
    obtain ⟨V, hV⟩ : ∃ V, PL.all numB = V := ⟨_, rfl⟩
    rw [hV] at hnum ⊢
    have HV := Lib.hid hnum; clear hV hnum
    cases K
    · go_enter Try.func21, Try.ntmps21
      go_wp2_with fail
      refine C1.out.mono ?_
      rintro e w1 ⟨rfl, rfl⟩
      go_wp2_with fail
      refine (C2.out).mono ?_
      rintro e w2 ⟨adv, cav, rfl, ⟨vs, hm⟩, hb2⟩
      go_wp2_with fail
      exact bodyPost_ret (v := .tuple #[.slice none 0 0, .bool false]) (by simp [results, Try.results21, go_sem]) rfl (LisR.no _ hb2)
    · rw [Bool.true_and]
      go_enter Try.func21, Try.ntmps21
      go_wp2_with fail
      refine C1.out.mono ?_
      rintro e w1 ⟨rfl, rfl⟩
      go_wp2_with fail
      refine (C2.out).mono ?_
      rintro e w2 ⟨adv, cav, rfl, ⟨vs, hm⟩, hb2⟩
      have HRD := Lib.hid hm.rd
      clear hm C1 C2
      go_wp2_with fail
      go_loopw [6, 22] (fun v i wr => ∃ k : Nat, k ≤ n ∧ i = .int .i64 k ∧ RowI wr w2.heap.size v ((tab n PF).take k) ∧ Below w2.heap.size w2 wr) (fun _ i _ => n - (intOf i).toNat)
      case atStart => exact ⟨0, Nat.zero_le _, rfl, RowI.nil _ _, Below.refl _ _⟩
      case round =>
        obtain ⟨wE, rfl⟩ : ∃ x : World, x = wr := ⟨_, rfl⟩
        obtain ⟨k, hk, rfl, hrow, hbel⟩ := hrel
        have htl := tab_takeL n PF hk
        by_cases hlt : k < n
        case neg =>
          obtain rfl : k = n := by omega
          rw [tab_all, ← HPL.out] at hrow
          obtain ⟨ad5, cap5, rfl, hrd5⟩ := hrow.shape
          have CL := l1All_any ad5 cap5 PL (-1000000) 1000000 wE (by rw [HPN.out]; omega) hrd5
          rw [← HV.out, HPN.out] at CL
          rw [HPN.out]
          have HCL := Lib.hid CL
          have HR5 := Lib.hid hrd5
          have hb9 := ball hb2 hbel
          clear CL hrow hrd5
          cases V
          · go_wp2_with fail
            refine HCL.out.mono ?_
            rintro e w5 ⟨rfl, rfl⟩
            go_wp2_with fail
            exact bodyPost_ret (v := .tuple #[.slice none 0 0, .bool false]) (by simp [results, Try.results21, go_sem]) rfl (LisR.no _ hb9)
          · go_wp2_with fail
            refine HCL.out.mono ?_
            rintro e w5 ⟨rfl, rfl⟩
            go_wp2_with fail
            exact bodyPost_ret (v := .tuple #[.slice ad5 k cap5, .bool true]) (by simp [results, Try.results21, go_sem]) rfl (LisR.yes HR5.out HPN.out hb9)
        case pos =>
          have hsn := tab_takeS n PF hlt
          rw [HPF.out k] at hsn
          have HSN := Lib.hid hsn
          have HO := Lib.hid hrow
          have hsz := hbel.size
          clear hsn hrow
          generalize (tab n PF).take k = L at HSN HO htl ⊢
          go_wp2_with fail
          go_loop [8, 27] (fun v i => ∃ q : Nat, q ≤ n ∧ i = .int .i64 q ∧ v = .int .i64 (mnF 1000000000 (fun i => F i k) q)) (fun _ i => n - (intOf i).toNat)
          case atStart => exact ⟨0, Nat.zero_le _, rfl, rfl⟩
          case round =>
            obtain ⟨q, hq, rfl, rfl⟩ := hrel
            by_cases hlq : q < n
            case neg =>
              obtain rfl : q = n := by omega
              generalize mnF 1000000000 (fun i => F i k) q = P at HSN ⊢
              go_wp2_with (at_builtin; refine wpList_appN rfl _ _ rfl w2.heap.size _ 0 1 _ L [P] (k + 1) (by rw [htl]; rfl) rfl rfl (RowI.alloc' HO.out) (rdI_one _ _ _ rfl) (by omega) (by simp) (by simp; omega) ?_; intro v5 wm hown hsh hbm hgr)
              have hb3 := (bal_alloc (o := .cells #[.int .i64 P] 3) hbel).trans hbm
              rw [← HSN.out] at hown
              have HO5 := Lib.hid hown; clear hown hsh hgr hbm
              go_wp2_with fail
              go_roundw
              case rel => exact ⟨k + 1, by omega, by go_num, HO5.out, hb3⟩
              case measure => simp [intOf]; omega
            case pos =>
              obtain ⟨bD, oD, rfl, hbD, hrw⟩ := (HRD.out.below hbel).rowF (by omega)
              obtain ⟨b2, o2, c2, e2, hl2, hc2⟩ := hrw q hlq
              have k1 := hc2 k hlt
              have x1 : (0 : Int) ≤ (k : Int) := by omega
              have x2 : (k : Int) < (n : Int) := by omega
              have x3 : (0 : Int) ≤ (q : Int) := by omega
              have x4 : (q : Int) < (n : Int) := by omega
              have CL := Lib.hid (fun w => l1Least_n (mnF 1000000000 (fun i => F i k) q) (F q k) w)
              have HNX := Lib.hid (show leastZ (mnF 1000000000 (fun i => F i k) q) (F q k) = mnF 1000000000 (fun i => F i k) (q + 1) from rfl)
              clear hrw hc2
              generalize mnF 1000000000 (fun i => F i k) q = P at CL HNX ⊢
              generalize F q k = X at CL HNX k1
              generalize leastZ P X = Y at CL HNX
              go_wp2_with fail
              refine (CL.out _).mono ?_
              rintro e w5 ⟨rfl, rfl⟩
              go_wp2_with fail
              go_round
              case rel => exact ⟨q + 1, by omega, by go_num, by rw [HNX.out]⟩
              case measure => simp [intOf]; omega

end Go.Proofs.Ytbffcbjbeeagmaa
