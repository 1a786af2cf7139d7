/-
  Vertices, potentials and places that the cursor draws. Printed by gen_wyX.py. By an AI agent.
-/
import Derived.Test.YtbffcbjbeeagmaaWyW
namespace Go.Proofs.Ytbffcbjbeeagmaa
open Go.RowKit

def LisO (B : Bool) (X : List Int) (w : World) (e : Ending) (w' : World) : Prop := ∃ ad cap, e = .returned (.tuple #[.slice ad (onL B X).length cap, .bool B]) ∧ RdI w' ad (onL B X) ∧ (∀ a, ad = some a → w.heap.size ≤ a.block) ∧ Below w.heap.size w w'
theorem LisO.no {w w' : World} (X : List Int) (hb : Below w.heap.size w w') : LisO false X w (.returned (.tuple #[.slice none 0 0, .bool false])) w' := ⟨none, 0, rfl, RdI.nil _ _, (fun _ h => by cases h), hb⟩
theorem LisO.yes {w w' : World} {ad : Option Addr} {cap n : Nat} {X : List Int} (h : RdI w' ad X) (hn : X.length = n) (ho : ∀ a, ad = some a → w.heap.size ≤ a.block) (hb : Below w.heap.size w w') : LisO true X w (.returned (.tuple #[.slice ad n cap, .bool true])) w' := by
  subst hn
  exact ⟨ad, cap, rfl, h, ho, hb⟩
theorem row_adr {w : World} {B n cap : Nat} {ad : Option Addr} {xs : List Int} (h : RowI w B (.slice ad n cap) xs) : ∀ a, ad = some a → B ≤ a.block := by
  intro a ha
  subst ha
  exact RowI.blk h a.block rfl
theorem RdI.chgA {w w' : World} {c : Nat} {ad : Option Addr} {xs : List Int} (h : RdI w ad xs) (hc : Chg c w w') (ho : ∀ a, ad = some a → c < a.block) : RdI w' ad xs := fun j hj => by
  obtain ⟨b, off, e, hl, h1⟩ := h j hj
  have := ho _ e
  exact ⟨b, off, e, Nat.lt_of_lt_of_le hl hc.size, (World.cell?_of_block (hc.block b hl (by simp at this; omega))).trans h1⟩
/-- a list drawn, to be read. -/
def ReaD (c n : Nat) (w : World) (e : Ending) (w' : World) : Prop := ∃ ad cap xs, e = .returned (.slice ad (List.length xs) cap) ∧ xs.length ≤ 21 ∧ RdI w' ad xs ∧ (∀ a, ad = some a → w.heap.size ≤ a.block) ∧ Cur w' c n ∧ Chg c w w'

set_option maxHeartbeats 3200000 in
set_option maxRecDepth 100000 in
theorem sPotentialsO_c (ad : Option Addr) (cap : Nat) (M : List (List Int)) (w : World) (hr : RdM w ad M) (hl : smM M) :
    Calls Try.prog 21 #[.slice ad M.length cap] w (LisO (potB M) (potL M) w) := by
  have C1 := Lib.hid (mxSquare_c ad cap M w hr (by have := hl.1; omega) (fun i hi => by have := hl.2 i hi; omega))
  have C2 := Lib.hid (fun (hs : sqB M = true) => wyCosts2_c ad cap M w hr hs)
  unfold potB
  have hok : sqB M = false → okW M = false := fun h => by unfold okW; rw [h]; rfl
  cases hs : sqB M
  · rw [hs] at C1
    rw [hok hs]
    clear hs hok hr C2
    go_enter Try.func21, Try.ntmps21
    go_wp2_with fail
    refine C1.out.mono ?_
    rintro e w1 ⟨rfl, rfl⟩
    go_wp2_with fail
    exact bodyPost_ret (v := .tuple #[.slice none 0 0, .bool false]) (by simp [results, Try.results21, go_sem]) rfl (LisO.no _ (Below.refl _ _))
  · rw [hs] at C1
    obtain ⟨hn, _, _⟩ := sq_facts hs
    have C2 := Lib.hid (C2.out hs)
    have hdis : disM M = toM M.length (bf M.length (entM M) M.length) := rfl
    have hpl : potL M = tab M.length (potF M) := rfl
    have hpf : ∀ k, potF M k = mnF 1000000000 (fun i => bf M.length (entM M) M.length i k) M.length := fun _ => rfl
    have hnum := pot_num hs
    clear hs hok hr hl
    rw [hdis] at C2
    clear hdis
    generalize bf M.length (entM M) M.length = F at C2 hpf
    generalize potF M = PF at hpl hpf
    generalize potL M = PL at hpl hnum ⊢
    generalize M.length = n at C1 C2 hpl hpf hn ⊢
    have HPF := Lib.hid hpf
    have HPL := Lib.hid hpl
    have hpln : PL.length = n := by rw [hpl, tab_length]
    have HPN := Lib.hid hpln
    clear hpl hpf hpln
    generalize okW M = K at C2 ⊢
    obtain ⟨V, hV⟩ : ∃ V, PL.all numB = V := ⟨_, rfl⟩
    rw [hV] at hnum ⊢
    have HV := Lib.hid hnum; clear hV hnum
    cases K
    · go_enter Try.func21, Try.ntmps21
      go_wp2_with fail
      refine C1.out.mono ?_
      rintro e w1 ⟨rfl, rfl⟩
      go_wp2_with fail
      refine (C2.out).mono ?_
      rintro e w2 ⟨adv, cav, rfl, ⟨vs, hm⟩, hb2⟩
      go_wp2_with fail
      exact bodyPost_ret (v := .tuple #[.slice none 0 0, .bool false]) (by simp [results, Try.results21, go_sem]) rfl (LisO.no _ hb2)
    · rw [Bool.true_and]
      go_enter Try.func21, Try.ntmps21
      go_wp2_with fail
      refine C1.out.mono ?_
      rintro e w1 ⟨rfl, rfl⟩
      go_wp2_with fail
      refine (C2.out).mono ?_
      rintro e w2 ⟨adv, cav, rfl, ⟨vs, hm⟩, hb2⟩
      have HRD := Lib.hid hm.rd
      have HZ2 := Lib.hid hb2.size
      clear hm C1 C2
      go_wp2_with fail
      go_loopw [6, 22] (fun v i wr => ∃ k : Nat, k ≤ n ∧ i = .int .i64 k ∧ RowI wr w2.heap.size v ((tab n PF).take k) ∧ Below w2.heap.size w2 wr) (fun _ i _ => n - (intOf i).toNat)
      case atStart => exact ⟨0, Nat.zero_le _, rfl, RowI.nil _ _, Below.refl _ _⟩
      case round =>
        obtain ⟨wE, rfl⟩ : ∃ x : World, x = wr := ⟨_, rfl⟩
        obtain ⟨k, hk, rfl, hrow, hbel⟩ := hrel
        have htl := tab_takeL n PF hk
        by_cases hlt : k < n
        case neg =>
          obtain rfl : k = n := by omega
          rw [tab_all, ← HPL.out] at hrow
          obtain ⟨ad5, cap5, rfl, hrd5⟩ := hrow.shape
          have CL := l1All_any ad5 cap5 PL (-1000000) 1000000 wE (by rw [HPN.out]; omega) hrd5
          rw [← HV.out, HPN.out] at CL
          rw [HPN.out]
          have HCL := Lib.hid CL
          have HR5 := Lib.hid hrd5
          have HB5 := Lib.hid (fun a ha => Nat.le_trans HZ2.out (row_adr hrow a ha))
          have hb9 := ball hb2 hbel
          clear CL hrow hrd5
          cases V
          · go_wp2_with fail
            refine HCL.out.mono ?_
            rintro e w5 ⟨rfl, rfl⟩
            go_wp2_with fail
            exact bodyPost_ret (v := .tuple #[.slice none 0 0, .bool false]) (by simp [results, Try.results21, go_sem]) rfl (LisO.no _ hb9)
          · go_wp2_with fail
            refine HCL.out.mono ?_
            rintro e w5 ⟨rfl, rfl⟩
            go_wp2_with fail
            exact bodyPost_ret (v := .tuple #[.slice ad5 k cap5, .bool true]) (by simp [results, Try.results21, go_sem]) rfl (LisO.yes HR5.out HPN.out HB5.out hb9)
        case pos =>
          have hsn := tab_takeS n PF hlt
          rw [HPF.out k] at hsn
          have HSN := Lib.hid hsn
          have HO := Lib.hid hrow
          have hsz := hbel.size
          clear hsn hrow
          generalize (tab n PF).take k = L at HSN HO htl ⊢
          go_wp2_with fail
          go_loop [8, 27] (fun v i => ∃ q : Nat, q ≤ n ∧ i = .int .i64 q ∧ v = .int .i64 (mnF 1000000000 (fun i => F i k) q)) (fun _ i => n - (intOf i).toNat)
          case atStart => exact ⟨0, Nat.zero_le _, rfl, rfl⟩
          case round =>
            obtain ⟨q, hq, rfl, rfl⟩ := hrel
            by_cases hlq : q < n
            case neg =>
              obtain rfl : q = n := by omega
              generalize mnF 1000000000 (fun i => F i k) q = P at HSN ⊢
              go_wp2_with (at_builtin; refine wpList_appN rfl _ _ rfl w2.heap.size _ 0 1 _ L [P] (k + 1) (by rw [htl]; rfl) rfl rfl (RowI.alloc' HO.out) (rdI_one _ _ _ rfl) (by omega) (by simp) (by simp; omega) ?_; intro v5 wm hown hsh hbm hgr)
              have hb3 := (bal_alloc (o := .cells #[.int .i64 P] 3) hbel).trans hbm
              rw [← HSN.out] at hown
              have HO5 := Lib.hid hown; clear hown hsh hgr hbm
              go_wp2_with fail
              go_roundw
              case rel => exact ⟨k + 1, by omega, by go_num, HO5.out, hb3⟩
              case measure => simp [intOf]; omega
            case pos =>
              obtain ⟨bD, oD, rfl, hbD, hrw⟩ := (HRD.out.below hbel).rowF (by omega)
              obtain ⟨b2, o2, c2, e2, hl2, hc2⟩ := hrw q hlq
              have k1 := hc2 k hlt
              have x1 : (0 : Int) ≤ (k : Int) := by omega
              have x2 : (k : Int) < (n : Int) := by omega
              have x3 : (0 : Int) ≤ (q : Int) := by omega
              have x4 : (q : Int) < (n : Int) := by omega
              have CL := Lib.hid (fun w => l1Least_n (mnF 1000000000 (fun i => F i k) q) (F q k) w)
              have HNX := Lib.hid (show leastZ (mnF 1000000000 (fun i => F i k) q) (F q k) = mnF 1000000000 (fun i => F i k) (q + 1) from rfl)
              clear hrw hc2
              generalize mnF 1000000000 (fun i => F i k) q = P at CL HNX ⊢
              generalize F q k = X at CL HNX k1
              generalize leastZ P X = Y at CL HNX
              go_wp2_with fail
              refine (CL.out _).mono ?_
              rintro e w5 ⟨rfl, rfl⟩
              go_wp2_with fail
              go_round
              case rel => exact ⟨q + 1, by omega, by go_num, by rw [HNX.out]⟩
              case measure => simp [intOf]; omega


set_option maxHeartbeats 3200000 in
set_option maxRecDepth 100000 in
theorem vertex_c (ad : Option Addr) (L cap : Nat) (hL : L ≤ 7) (c n : Nat) (w : World) (h : Cur w c n) (hn : n ≤ 4611686018427380000) :
    Calls Try.prog 34 #[.pointer (some ⟨c, 0, none⟩), .slice ad L cap] w (SomeI (fun _ => True) c (n + 8) w) := by
  have hcl := h.lt
  have H := Lib.hid h; clear h
  have e1 : IntKind.i64.wrap ((L : Int) + 1) = (L : Int) + 1 := i64_small (by omega) (by omega)
  have e2 : IntKind.i64.wrap ((L : Int) - 1) = (L : Int) - 1 := i64_small (by omega) (by omega)
  go_enter Try.func34, Try.ntmps34
  have HF1 := Lib.hid (Chg.refl c w)
  go_wp2_with fail
  refine (pick_c ((L : Int) + 1) c n w H.out (by omega)).mono ?_
  rintro e w3 ⟨x2, rfl, hp4, hcu, hch⟩
  have HU5 := Lib.hid hcu; clear hcu
  have HF6 := Lib.hid (HF1.out.trans hch)
  clear hch
  have hz7 := HF6.out.size
  go_wp2_with fail
  refine (pick_c ((L : Int) + 1) c (n + 2) w3 HU5.out (by omega)).mono ?_
  rintro e w9 ⟨x8, rfl, hp10, hcu, hch⟩
  have HU11 := Lib.hid hcu; clear hcu
  have HF12 := Lib.hid (HF6.out.trans hch)
  clear hch
  have hz13 := HF12.out.size
  go_wp2_with fail
  have HU17 := Lib.hid (HU11.out.below ((Below.refl _ _).alloc (Nat.le_refl _) (.cells #[.int .i64 0, .int .i64 (L : Int), .int .i64 (-1)] 3)))
  have hl18 := HU11.out.lt
  have HF19 := Lib.hid (HF12.out.trans (Chg.alloc c w9 (.cells #[.int .i64 0, .int .i64 (L : Int), .int .i64 (-1)] 3)))
  refine (among_c w9.heap.size 3 [0, (L : Int), -1] c (n + 4) (w9.alloc (.cells #[.int .i64 0, .int .i64 (L : Int), .int .i64 (-1)] 3)) HU17.out (by omega) (by simp) (by simp) (by omega) (Own.newA w9 _ 3 rfl)).mono ?_
  rintro e w15 ⟨x14, rfl, hx, hcu, hch⟩
  clear hx
  have HU20 := Lib.hid hcu; clear hcu
  have HF21 := Lib.hid (HF19.out.trans hch)
  clear hch
  have hz22 := HF21.out.size
  go_wp2_with fail
  have HU26 := Lib.hid (HU20.out.below ((Below.refl _ _).alloc (Nat.le_refl _) (.cells #[.int .i64 0, .int .i64 x2, .int .i64 x8, .int .i64 ((L : Int) - 1), .int .i64 x14] 3)))
  have hl27 := HU20.out.lt
  have HF28 := Lib.hid (HF21.out.trans (Chg.alloc c w15 (.cells #[.int .i64 0, .int .i64 x2, .int .i64 x8, .int .i64 ((L : Int) - 1), .int .i64 x14] 3)))
  refine (among_c w15.heap.size 5 [0, x2, x8, ((L : Int) - 1), x14] c (n + 6) (w15.alloc (.cells #[.int .i64 0, .int .i64 x2, .int .i64 x8, .int .i64 ((L : Int) - 1), .int .i64 x14] 3)) HU26.out (by omega) (by simp) (by simp) (by omega) (Own.newA w15 _ 3 rfl)).mono ?_
  rintro e w24 ⟨x23, rfl, hx, hcu, hch⟩
  clear hx
  have HU29 := Lib.hid hcu; clear hcu
  have HF30 := Lib.hid (HF28.out.trans hch)
  clear hch
  have hz31 := HF30.out.size
  go_wp2_with fail
  go_ret
  exact ⟨_, rfl, trivial, HU29.out.mono (by omega), HF30.out⟩

set_option maxHeartbeats 3200000 in
set_option maxRecDepth 100000 in
theorem place_c (c n : Nat) (w : World) (h : Cur w c n) (hn : n ≤ 4611686018427370000) :
    Calls Try.prog 77 #[.pointer (some ⟨c, 0, none⟩)] w (SomeI (fun _ => True) c (n + 8) w) := by
  have hcl := h.lt
  have H := Lib.hid h; clear h
  go_enter Try.func77, Try.ntmps77
  have HF1 := Lib.hid (Chg.refl c w)
  go_wp2_with fail
  refine (small_c c n w H.out (by omega)).mono ?_
  rintro e w3 ⟨x2, rfl, -, hcu, hch⟩
  have HU4 := Lib.hid hcu; clear hcu
  have HF5 := Lib.hid (HF1.out.trans hch)
  clear hch
  have hz6 := HF5.out.size
  go_wp2_with fail
  refine (small_c c (n + 2) w3 HU4.out (by omega)).mono ?_
  rintro e w8 ⟨x7, rfl, -, hcu, hch⟩
  have HU9 := Lib.hid hcu; clear hcu
  have HF10 := Lib.hid (HF5.out.trans hch)
  clear hch
  have hz11 := HF10.out.size
  go_wp2_with fail
  have HU15 := Lib.hid (HU9.out.below ((Below.refl _ _).alloc (Nat.le_refl _) (.cells #[.int .i64 100000, .int .i64 (-100000), .int .i64 1000000, .int .i64 (-1000000), .int .i64 1000000000, .int .i64 (-9223372036854775808)] 3)))
  have hl16 := HU9.out.lt
  have HF17 := Lib.hid (HF10.out.trans (Chg.alloc c w8 (.cells #[.int .i64 100000, .int .i64 (-100000), .int .i64 1000000, .int .i64 (-1000000), .int .i64 1000000000, .int .i64 (-9223372036854775808)] 3)))
  refine (among_c w8.heap.size 6 [100000, -100000, 1000000, -1000000, 1000000000, -9223372036854775808] c (n + 4) (w8.alloc (.cells #[.int .i64 100000, .int .i64 (-100000), .int .i64 1000000, .int .i64 (-1000000), .int .i64 1000000000, .int .i64 (-9223372036854775808)] 3)) HU15.out (by omega) (by simp) (by simp) (by omega) (Own.newA w8 _ 3 rfl)).mono ?_
  rintro e w13 ⟨x12, rfl, hx, hcu, hch⟩
  clear hx
  have HU18 := Lib.hid hcu; clear hcu
  have HF19 := Lib.hid (HF17.out.trans hch)
  clear hch
  have hz20 := HF19.out.size
  go_wp2_with fail
  have HU24 := Lib.hid (HU18.out.below ((Below.refl _ _).alloc (Nat.le_refl _) (.cells #[.int .i64 0, .int .i64 1, .int .i64 (-1), .int .i64 2, .int .i64 x2, .int .i64 x7, .int .i64 x12] 3)))
  have hl25 := HU18.out.lt
  have HF26 := Lib.hid (HF19.out.trans (Chg.alloc c w13 (.cells #[.int .i64 0, .int .i64 1, .int .i64 (-1), .int .i64 2, .int .i64 x2, .int .i64 x7, .int .i64 x12] 3)))
  refine (among_c w13.heap.size 7 [0, 1, -1, 2, x2, x7, x12] c (n + 6) (w13.alloc (.cells #[.int .i64 0, .int .i64 1, .int .i64 (-1), .int .i64 2, .int .i64 x2, .int .i64 x7, .int .i64 x12] 3)) HU24.out (by omega) (by simp) (by simp) (by omega) (Own.newA w13 _ 3 rfl)).mono ?_
  rintro e w22 ⟨x21, rfl, hx, hcu, hch⟩
  clear hx
  have HU27 := Lib.hid hcu; clear hcu
  have HF28 := Lib.hid (HF26.out.trans hch)
  clear hch
  have hz29 := HF28.out.size
  go_wp2_with fail
  go_ret
  exact ⟨_, rfl, trivial, HU27.out.mono (by omega), HF28.out⟩

set_option maxHeartbeats 1600000 in
set_option maxRecDepth 100000 in
theorem nuShift_c (ad : Option Addr) (cap : Nat) (p : List Int) (by' : Int) (w : World) (hr : RdI w ad p) (hl : p.length ≤ 7) (hp : ∀ i, i < p.length → -2000000000 ≤ p.getD i 0 ∧ p.getD i 0 ≤ 2000000000) (hb : -100 ≤ by' ∧ by' ≤ 100) :
    Calls Try.prog 106 #[.slice ad p.length cap, .int .i64 by'] w fun e w' => ∃ (v : Value) (xs : List Int) (b : Bool), e = .returned (.tuple #[v, .bool b]) ∧ xs.length ≤ 7 ∧ RowI w' w.heap.size v xs ∧ Below w.heap.size w w' := by
  have HR := Lib.hid hr; have HP := Lib.hid hp
  clear hr hp
  obtain ⟨N, hN⟩ : ∃ N, p.length = N := ⟨_, rfl⟩
  have HN := Lib.hid hN
  rw [hN] at hl ⊢
  clear hN
  go_enter Try.func106, Try.ntmps106
  go_wp2_with fail
  go_loopw [6, 13] (fun v i wr => ∃ (k : Nat) (xs : List Int), k ≤ N ∧ i = .int .i64 k ∧ xs.length = k ∧ RowI wr w.heap.size v xs ∧ Below w.heap.size w wr) (fun _ i _ => N - (intOf i).toNat)
  case atStart => exact ⟨0, [], Nat.zero_le _, rfl, rfl, RowI.nil _ _, Below.refl _ _⟩
  case round =>
    obtain ⟨wE, rfl⟩ : ∃ x : World, x = wr := ⟨_, rfl⟩
    obtain ⟨k, xs, hk, rfl, hxl, hrow, hbel⟩ := hrel
    obtain ⟨adr, car, rfl⟩ := row_shp hrow
    rw [hxl] at hrow ⊢
    have HXL := Lib.hid hxl; have HO := Lib.hid hrow
    have hsz := hbel.size
    clear hxl hrow
    by_cases hlt : k < N
    case neg =>
      go_wp2_with fail
      exact bodyPost_ret (v := .tuple #[.slice adr k car, .bool true]) (by simp [results, Try.results106, go_sem]) rfl ⟨_, xs, true, rfl, by have := HXL.out; omega, HO.out, hbel⟩
    case pos =>
      obtain ⟨bp, op, rfl, hbp, q1⟩ := HR.out k (by rw [HN.out]; exact hlt)
      have q1 := bcell hbel hbp q1
      have hbd := HP.out k (by rw [HN.out]; exact hlt)
      have x1 : (0 : Int) ≤ (k : Int) := by omega
      have x2 : (k : Int) < (N : Int) := by omega
      generalize p.getD k 0 = A at q1 hbd
      have CM := Lib.hid (fun w => nuMul_c A by' w (by omega))
      unfold pairV at CM
      generalize toldZ (prodZ A by') = T at CM
      generalize numB (prodZ A by') = B at CM
      clear hbd
      cases B
      · go_wp2_with fail
        refine (CM.out _).mono ?_
        rintro e w3 ⟨rfl, rfl⟩
        go_wp2_with fail
        exact bodyPost_ret (v := .tuple #[.slice none 0 0, .bool false]) (by simp [results, Try.results106, go_sem]) rfl ⟨_, [], false, rfl, by simp, RowI.nil _ _, hbel⟩
      · go_wp2_with fail
        refine (CM.out _).mono ?_
        rintro e w3 ⟨rfl, rfl⟩
        go_wp2_with (at_builtin; refine wpList_appN rfl _ _ rfl w.heap.size _ 0 1 _ xs [T] (k + 1) (by rw [HXL.out]; rfl) rfl rfl (RowI.alloc' HO.out) (rdI_one _ _ _ rfl) (by have := HXL.out; omega) (by simp) (by simp; omega) ?_; intro v5 wm hown hsh hbm hgr)
        have hb3 := (bal_alloc (o := .cells #[.int .i64 T] 3) hbel).trans hbm
        have HO5 := Lib.hid hown; clear hown hsh hgr hbm
        go_wp2_with fail
        go_roundw
        case rel => exact ⟨k + 1, xs ++ [T], by omega, by go_num, by rw [List.length_append, HXL.out]; rfl, HO5.out, hb3⟩
        case measure => simp [intOf]; omega

theorem potL_len (M : List (List Int)) : (potL M).length = M.length := tab_length _ _
theorem pot_fin {M : List (List Int)} (h : potB M = true) : ∀ i, i < (potL M).length → -2000000000 ≤ (potL M).getD i 0 ∧ (potL M).getD i 0 ≤ 2000000000 := by
  intro i hi
  unfold potB at h
  rw [Bool.and_eq_true] at h
  have := numB_t (List.all_eq_true.1 h.2 _ (getD_memI hi))
  omega

set_option maxHeartbeats 3200000 in
set_option maxRecDepth 100000 in
theorem potentials_c (ad : Option Addr) (cap : Nat) (M : List (List Int)) (c n : Nat) (w : World) (h : Cur w c n) (hn : n ≤ 4611686018427350000) (hr : RdM w ad M) (hs : M.length ≤ 7) (hs2 : ∀ i, i < M.length → (M.getD i []).length ≤ 7) :
    Calls Try.prog 76 #[.pointer (some ⟨c, 0, none⟩), .slice ad M.length cap] w (ReaD c (n + 100) w) := by
  have hcl := h.lt
  have H := Lib.hid h; clear h
  have C1 := Lib.hid (sPotentialsO_c ad cap M w hr ⟨by omega, fun i hi => by have := hs2 i hi; omega⟩)
  have HPF := Lib.hid (fun (h : potB M = true) => pot_fin h)
  have hpl := potL_len M
  clear hr hs2
  generalize potB M = B at C1 HPF
  generalize potL M = P at C1 HPF hpl
  generalize M.length = N at C1 hpl hs ⊢
  have HPL := Lib.hid hpl
  clear hpl
  cases B
  · go_enter Try.func76, Try.ntmps76
    go_wp2_with fail
    refine C1.out.mono ?_
    rintro e w1 ⟨ad1, cap1, rfl, _, _, hb1⟩
    have hz1 := hb1.size
    have HU1 := Lib.hid (H.out.below hb1)
    have HF1 := Lib.hid (Chg.of_below (b := c) hb1)
    clear hb1
    go_wp2_with fail
    refine (vector_c N c n w1 HU1.out (by omega) (by omega)).mono ?_
    rintro e w2 ⟨v, xs, rfl, hxl, hrow, hcu, hch⟩
    obtain ⟨ad2, cap2, rfl, hrd⟩ := hrow.shape
    have HX := Lib.hid (show xs.length ≤ 21 by omega); have HRD := Lib.hid hrd; have HAD := Lib.hid (row_adr (hrow.low (B' := w.heap.size) hz1)); have HU2 := Lib.hid hcu; have HF2 := Lib.hid (HF1.out.trans hch)
    clear hxl hrow hrd hcu hch
    go_wp2_with fail
    go_ret
    exact ⟨ad2, cap2, xs, rfl, HX.out, HRD.out, HAD.out, HU2.out.mono (by omega), HF2.out⟩
  · go_enter Try.func76, Try.ntmps76
    go_wp2_with fail
    refine C1.out.mono ?_
    rintro e w1 ⟨ad1, cap1, rfl, hrp, hap, hb1⟩
    rw [show onL true P = P from rfl] at hrp ⊢
    rw [HPL.out]
    have hz1 := hb1.size
    have HRP := Lib.hid hrp; have HAP := Lib.hid hap
    have HU1 := Lib.hid (H.out.below hb1)
    have HF1 := Lib.hid (Chg.of_below (b := c) hb1)
    clear hb1 hrp hap
    go_wp2_with fail
    refine (one_c 4 c n w1 HU1.out (by omega)).mono ?_
    rintro e w2 ⟨bb, rfl, hcu, hch⟩
    have hz2 := hch.size
    have HRP2 := Lib.hid (HRP.out.chgA hch (fun a ha => Nat.lt_of_lt_of_le hcl (HAP.out a ha)))
    have HU2 := Lib.hid hcu; have HF2 := Lib.hid (HF1.out.trans hch)
    clear hcu hch
    cases bb
    case true =>
      go_wp2_with fail
      refine (vector_c N c (n + 2) w2 HU2.out (by omega) (by omega)).mono ?_
      rintro e w3 ⟨v, xs, rfl, hxl, hrow, hcu, hch⟩
      obtain ⟨ad2, cap2, rfl, hrd⟩ := hrow.shape
      have HX := Lib.hid (show xs.length ≤ 21 by omega); have HRD := Lib.hid hrd; have HAD := Lib.hid (row_adr (hrow.low (B' := w.heap.size) (by omega))); have HU3 := Lib.hid hcu; have HF3 := Lib.hid (HF2.out.trans hch)
      clear hxl hrow hrd hcu hch
      go_wp2_with fail
      go_ret
      exact ⟨ad2, cap2, xs, rfl, HX.out, HRD.out, HAD.out, HU3.out.mono (by omega), HF3.out⟩
    case false =>
      go_wp2_with fail
      refine (among_c w2.heap.size 4 [0, 0, 3, -5] c (n + 2) _ (HU2.out.below ((Below.refl _ _).alloc (Nat.le_refl _) _)) (by omega) (by simp) (by simp) (by omega) (Own.newA w2 _ 3 rfl)).mono ?_
      rintro e w3 ⟨y, rfl, hmem, hcu, hch⟩
      have hy : -100 ≤ y ∧ y ≤ 100 := by simp at hmem; omega
      have hch2 := Chg.trans (Chg.of_below (b := c) ((Below.refl w2.heap.size w2).alloc (Nat.le_refl _) _)) hch
      have hz3 := hch2.size
      have HRP3 := Lib.hid (HRP2.out.chgA hch2 (fun a ha => Nat.lt_of_lt_of_le hcl (HAP.out a ha)))
      have HU3 := Lib.hid hcu; have HF3 := Lib.hid (HF2.out.trans hch2)
      clear hcu hch hch2 hmem
      by_cases h0 : y = 0
      case pos =>
        subst h0
        have hP21 : P.length ≤ 21 := by have := HPL.out; omega
        have HP21 := Lib.hid hP21
        clear hP21
        go_wp2_with fail
        go_ret
        exact ⟨ad1, cap1, P, by rw [HPL.out]; rfl, HP21.out, HRP3.out, HAP.out, HU3.out.mono (by omega), HF3.out⟩
      case neg =>
        have g1 : (y != 0) = true := bne_iff_ne.2 h0
        have CS := nuShift_c ad1 cap1 P y w3 HRP3.out (by have := HPL.out; omega) (HPF.out (by trivial)) hy
        rw [HPL.out] at CS
        have HCS := Lib.hid CS
        clear CS h0 hy
        go_wp2_with fail
        refine HCS.out.mono ?_
        rintro e w4 ⟨v, xs, b4, rfl, hxl, hrow, hb4⟩
        obtain ⟨ad2, cap2, rfl, hrd⟩ := hrow.shape
        have HX := Lib.hid (show xs.length ≤ 21 by omega); have HRD := Lib.hid hrd; have HAD := Lib.hid (row_adr (hrow.low (B' := w.heap.size) (by omega))); have HU4 := Lib.hid (HU3.out.below hb4); have HF4 := Lib.hid (HF3.out.trans (Chg.of_below hb4))
        clear hxl hrow hrd hb4
        go_wp2_with fail
        go_ret
        exact ⟨ad2, cap2, xs, rfl, HX.out, HRD.out, HAD.out, HU4.out.mono (by omega), HF4.out⟩

set_option maxHeartbeats 3200000 in
set_option maxRecDepth 100000 in
theorem wayIn_c (ad : Option Addr) (cap : Nat) (M : List (List Int)) (c n : Nat) (w : World) (h : Cur w c n) (hn : n ≤ 4611686018427350000) (hr : RdM w ad M) (hca : ∀ u, Chg c w u → RdM u ad M) (hs : M.length ≤ 7) (hs2 : ∀ i, i < M.length → (M.getD i []).length ≤ 7) :
    Calls Try.prog 59 #[.pointer (some ⟨c, 0, none⟩), .slice ad M.length cap] w fun e w' => ∃ ad' cap' xs, e = .returned (.slice ad' (List.length xs) cap') ∧ xs.length ≤ 21 ∧ RdI w' ad' xs ∧ Chg c w w' := by
  have hcl := h.lt
  have H := Lib.hid h; clear h
  have hsm : smM M := ⟨by omega, fun i hi => by have := hs2 i hi; omega⟩
  have C1 := Lib.hid (mxSquare_c ad cap M w hr (by omega) (fun i hi => by have := hs2 i hi; omega))
  have C2 := Lib.hid (fun a b u (hc : Chg c w u) => sCheapest_c ad cap M a b u (hca u hc) hsm)
  have HCL := Lib.hid (fun a b (hb : chB M a b = true) => (show (chX M a b).length ≤ 21 by
    unfold chB at hb
    simp only [Bool.and_eq_true, Bool.not_eq_true', decide_eq_false_iff_not] at hb
    obtain ⟨h1, h2, h3, h4, h5⟩ := hb
    have h2 := inB_t.1 h2
    have h3 := inB_t.1 h3
    obtain ⟨n1, _, n3⟩ := sq_facts h1
    have h6 : okB M.length (entM M) = true := by unfold okW at h4; rw [h1, Bool.true_and] at h4; exact h4
    have h7 := (chS_spec (ex_meet (m := entM M) n3 n1.2 (okB_t.1 h6) (a := a.toNat) (b := b.toNat) (by omega) (by omega) h5)).1
    unfold chX chL
    rw [List.length_cons, chP_len]
    omega))
  have HSQ := Lib.hid (fun (h : sqB M = true) => (sq_facts h).1)
  clear hr hca hsm hs2
  have HV := Lib.hid (fun n u (hu : Cur u c n) hn => vertex_c ad M.length cap hs c n u hu hn)
  generalize sqB M = S at C1 HSQ
  generalize M.length = N at C1 C2 HSQ HV hs ⊢
  obtain ⟨iI, hiI0, hiI1, hiI2, hiI3⟩ := info_parts Try.infoI
  have HF1 := Lib.hid (Chg.refl c w)
  cases S
  case false =>
    go_enter Try.func59, Try.ntmps59
    go_wp2_with fail
    refine C1.out.mono ?_
    rintro e w1 ⟨rfl, rfl⟩
    go_wp2_with fail
    refine (pick_c 4 c n w H.out (by omega)).mono ?_
    rintro e w3 ⟨x2, rfl, hp4, hcu, hch⟩
    have HU5 := Lib.hid hcu; clear hcu
    have HF6 := Lib.hid (HF1.out.trans hch)
    clear hch
    have hz7 := HF6.out.size
    go_wp2_with fail
    refine (one_c 8 c (n + 2) w3 HU5.out (by omega)).mono ?_
    rintro e w9 ⟨b8, rfl, hcu, hch⟩
    have HU10 := Lib.hid hcu; clear hcu
    have HF11 := Lib.hid (HF6.out.trans hch)
    clear hch
    have hz12 := HF11.out.size
    cases b8
    case false =>
      obtain ⟨N4, hN⟩ : ∃ N : Nat, x2 = N := ⟨x2.toNat, by omega⟩
      subst hN
      have hN4 : N4 ≤ 21 := by omega
      clear hp4
      go_wp2_with fail
      go_loopw [9] (fun v wr => ∃ xs : List Int, xs.length ≤ N4 ∧ RowI wr w.heap.size v xs ∧ Cur wr c ((n + 4) + 8 * xs.length) ∧ Chg c w wr) (fun v _ => N4 - slen v)
      case atStart => exact ⟨[], by simp, RowI.nil _ _, HU10.out.mono (by simp), HF11.out⟩
      case round =>
        obtain ⟨xs, hxs, hrow, hcu, hch⟩ := hrel
        have HR := Lib.hid hrow; clear hrow
        have HU := Lib.hid hcu; clear hcu
        have HF := Lib.hid hch; clear hch
        have hsz := HF.out.size
        obtain ⟨wo, rfl⟩ : ∃ wo : World, wo = wr := ⟨_, rfl⟩
        obtain ⟨ad1, cap1, rfl, -⟩ := HR.out.shape
        by_cases hlt : xs.length < N4
        case pos =>
          have g1 : decide ((xs.length : Int) < (N4 : Int)) = true := decide_eq_true (by omega)
          go_wp2_with fail
          refine (HV.out ((n + 4) + 8 * xs.length) wo HU.out (by omega)).mono ?_
          rintro e w14 ⟨x13, rfl, -, hcu, hch⟩
          have HU15 := Lib.hid hcu; clear hcu
          have HF16 := Lib.hid (HF.out.trans hch)
          have HR17 := Lib.hid (row_chg HR.out hch (by omega))
          clear hch
          have hz18 := HF16.out.size
          go_wp2_with (at_builtin; refine wpList_append_lies _ rfl _ _ 29 rfl w.heap.size 3 iI _ 1 8 Try.underlying29 hiI0 hiI1 hiI2 hiI3 rfl (by omega) (.slice ad1 xs.length cap1) xs.length (ints xs) rfl (HR17.out.alloc _) ⟨w14.heap.size, 0, none⟩ 1 1 [.int .i64 x13] rfl rfl (World.news_of_block (cs := #[.int .i64 x13]) (t := 3) (fr := (0, 0)) (heap_alloc_new _ _)) (by simp [Value.oneCell']) (by omega) (by unfold maxLen; omega) (by omega) (by simp; omega) (w14.heap.size + 1) (by simp) ?_; intro g19 cap20 w21 hown hgrow hat hltx; clear hat)
          have hb22 := app_below (Below.refl w.heap.size w14) (by omega) HR17.out hgrow
          have hz23 : w14.heap.size ≤ w21.heap.size := by have := hgrow.size; simp at this; omega
          have HR24 := Lib.hid (row_congr (ys := ints (xs ++ [x13])) hown (m := (xs ++ [x13]).length) (by simp) (by simp [ints])); clear hown
          clear hgrow
          have HU25 := Lib.hid (HU15.out.under hb22 (by omega))
          have HF26 := Lib.hid (HF16.out.under hb22 (by omega) hz23)
          clear hb22
          go_roundw
          case rel => exact ⟨xs ++ [x13], by simp; omega, HR24.out, HU25.out.mono (by simp; omega), HF26.out⟩
          case measure => (simp [slen]; omega)
        case neg =>
          have g1 : decide ((xs.length : Int) < (N4 : Int)) = false := decide_eq_false (by omega)
          have HX := Lib.hid (show xs.length ≤ 21 by omega)
          have HRD := Lib.hid (CellO.rd (CellO.of_row (show RowI wo w.heap.size (.slice ad1 xs.length cap1) xs from HR.out)))
          go_wp2_with fail
          go_ret
          exact ⟨ad1, cap1, xs, rfl, HX.out, HRD.out, HF.out⟩
    case true =>
      clear hp4
      go_wp2_with fail
      refine (pick_c 2 c (n + 4) w9 HU10.out (by omega)).mono ?_
      rintro e w28 ⟨x27, rfl, hp29, hcu, hch⟩
      have HU30 := Lib.hid hcu; clear hcu
      have HF31 := Lib.hid (HF11.out.trans hch)
      clear hch
      have hz32 := HF31.out.size
      obtain ⟨N4, hN⟩ : ∃ N : Nat, 20 + x27 = N := ⟨(20 + x27).toNat, by omega⟩
      have eN : IntKind.i64.wrap (20 + x27) = (N4 : Int) := by rw [hN]; exact i64_small (by omega) (by omega)
      have hN4 : N4 ≤ 21 := by omega
      clear hp29 hN
      go_wp2_with fail
      go_loopw [9] (fun v wr => ∃ xs : List Int, xs.length ≤ N4 ∧ RowI wr w.heap.size v xs ∧ Cur wr c ((n + 6) + 8 * xs.length) ∧ Chg c w wr) (fun v _ => N4 - slen v)
      case atStart => exact ⟨[], by simp, RowI.nil _ _, HU30.out.mono (by simp), HF31.out⟩
      case round =>
        obtain ⟨xs, hxs, hrow, hcu, hch⟩ := hrel
        have HR := Lib.hid hrow; clear hrow
        have HU := Lib.hid hcu; clear hcu
        have HF := Lib.hid hch; clear hch
        have hsz := HF.out.size
        obtain ⟨wo, rfl⟩ : ∃ wo : World, wo = wr := ⟨_, rfl⟩
        obtain ⟨ad1, cap1, rfl, -⟩ := HR.out.shape
        by_cases hlt : xs.length < N4
        case pos =>
          have g1 : decide ((xs.length : Int) < (N4 : Int)) = true := decide_eq_true (by omega)
          go_wp2_with fail
          refine (HV.out ((n + 6) + 8 * xs.length) wo HU.out (by omega)).mono ?_
          rintro e w34 ⟨x33, rfl, -, hcu, hch⟩
          have HU35 := Lib.hid hcu; clear hcu
          have HF36 := Lib.hid (HF.out.trans hch)
          have HR37 := Lib.hid (row_chg HR.out hch (by omega))
          clear hch
          have hz38 := HF36.out.size
          go_wp2_with (at_builtin; refine wpList_append_lies _ rfl _ _ 29 rfl w.heap.size 3 iI _ 1 8 Try.underlying29 hiI0 hiI1 hiI2 hiI3 rfl (by omega) (.slice ad1 xs.length cap1) xs.length (ints xs) rfl (HR37.out.alloc _) ⟨w34.heap.size, 0, none⟩ 1 1 [.int .i64 x33] rfl rfl (World.news_of_block (cs := #[.int .i64 x33]) (t := 3) (fr := (0, 0)) (heap_alloc_new _ _)) (by simp [Value.oneCell']) (by omega) (by unfold maxLen; omega) (by omega) (by simp; omega) (w34.heap.size + 1) (by simp) ?_; intro g39 cap40 w41 hown hgrow hat hltx; clear hat)
          have hb42 := app_below (Below.refl w.heap.size w34) (by omega) HR37.out hgrow
          have hz43 : w34.heap.size ≤ w41.heap.size := by have := hgrow.size; simp at this; omega
          have HR44 := Lib.hid (row_congr (ys := ints (xs ++ [x33])) hown (m := (xs ++ [x33]).length) (by simp) (by simp [ints])); clear hown
          clear hgrow
          have HU45 := Lib.hid (HU35.out.under hb42 (by omega))
          have HF46 := Lib.hid (HF36.out.under hb42 (by omega) hz43)
          clear hb42
          go_roundw
          case rel => exact ⟨xs ++ [x33], by simp; omega, HR44.out, HU45.out.mono (by simp; omega), HF46.out⟩
          case measure => (simp [slen]; omega)
        case neg =>
          have g1 : decide ((xs.length : Int) < (N4 : Int)) = false := decide_eq_false (by omega)
          have HX := Lib.hid (show xs.length ≤ 21 by omega)
          have HRD := Lib.hid (CellO.rd (CellO.of_row (show RowI wo w.heap.size (.slice ad1 xs.length cap1) xs from HR.out)))
          go_wp2_with fail
          go_ret
          exact ⟨ad1, cap1, xs, rfl, HX.out, HRD.out, HF.out⟩
  case true =>
    have hn6 := HSQ.out rfl
    go_enter Try.func59, Try.ntmps59
    go_wp2_with fail
    refine C1.out.mono ?_
    rintro e w1 ⟨rfl, rfl⟩
    go_wp2_with fail
    refine (one_c 4 c n w H.out (by omega)).mono ?_
    rintro e w48 ⟨b47, rfl, hcu, hch⟩
    have HU49 := Lib.hid hcu; clear hcu
    have HF50 := Lib.hid (HF1.out.trans hch)
    clear hch
    have hz51 := HF50.out.size
    cases b47
    case true =>
      go_wp2_with fail
      refine (pick_c 4 c (n + 2) w48 HU49.out (by omega)).mono ?_
      rintro e w53 ⟨x52, rfl, hp54, hcu, hch⟩
      have HU55 := Lib.hid hcu; clear hcu
      have HF56 := Lib.hid (HF50.out.trans hch)
      clear hch
      have hz57 := HF56.out.size
      go_wp2_with fail
      refine (one_c 8 c (n + 4) w53 HU55.out (by omega)).mono ?_
      rintro e w59 ⟨b58, rfl, hcu, hch⟩
      have HU60 := Lib.hid hcu; clear hcu
      have HF61 := Lib.hid (HF56.out.trans hch)
      clear hch
      have hz62 := HF61.out.size
      cases b58
      case false =>
        obtain ⟨N4, hN⟩ : ∃ N : Nat, x52 = N := ⟨x52.toNat, by omega⟩
        subst hN
        have hN4 : N4 ≤ 21 := by omega
        clear hp54
        go_wp2_with fail
        go_loopw [9] (fun v wr => ∃ xs : List Int, xs.length ≤ N4 ∧ RowI wr w.heap.size v xs ∧ Cur wr c ((n + 6) + 8 * xs.length) ∧ Chg c w wr) (fun v _ => N4 - slen v)
        case atStart => exact ⟨[], by simp, RowI.nil _ _, HU60.out.mono (by simp), HF61.out⟩
        case round =>
          obtain ⟨xs, hxs, hrow, hcu, hch⟩ := hrel
          have HR := Lib.hid hrow; clear hrow
          have HU := Lib.hid hcu; clear hcu
          have HF := Lib.hid hch; clear hch
          have hsz := HF.out.size
          obtain ⟨wo, rfl⟩ : ∃ wo : World, wo = wr := ⟨_, rfl⟩
          obtain ⟨ad1, cap1, rfl, -⟩ := HR.out.shape
          by_cases hlt : xs.length < N4
          case pos =>
            have g1 : decide ((xs.length : Int) < (N4 : Int)) = true := decide_eq_true (by omega)
            go_wp2_with fail
            refine (HV.out ((n + 6) + 8 * xs.length) wo HU.out (by omega)).mono ?_
            rintro e w64 ⟨x63, rfl, -, hcu, hch⟩
            have HU65 := Lib.hid hcu; clear hcu
            have HF66 := Lib.hid (HF.out.trans hch)
            have HR67 := Lib.hid (row_chg HR.out hch (by omega))
            clear hch
            have hz68 := HF66.out.size
            go_wp2_with (at_builtin; refine wpList_append_lies _ rfl _ _ 29 rfl w.heap.size 3 iI _ 1 8 Try.underlying29 hiI0 hiI1 hiI2 hiI3 rfl (by omega) (.slice ad1 xs.length cap1) xs.length (ints xs) rfl (HR67.out.alloc _) ⟨w64.heap.size, 0, none⟩ 1 1 [.int .i64 x63] rfl rfl (World.news_of_block (cs := #[.int .i64 x63]) (t := 3) (fr := (0, 0)) (heap_alloc_new _ _)) (by simp [Value.oneCell']) (by omega) (by unfold maxLen; omega) (by omega) (by simp; omega) (w64.heap.size + 1) (by simp) ?_; intro g69 cap70 w71 hown hgrow hat hltx; clear hat)
            have hb72 := app_below (Below.refl w.heap.size w64) (by omega) HR67.out hgrow
            have hz73 : w64.heap.size ≤ w71.heap.size := by have := hgrow.size; simp at this; omega
            have HR74 := Lib.hid (row_congr (ys := ints (xs ++ [x63])) hown (m := (xs ++ [x63]).length) (by simp) (by simp [ints])); clear hown
            clear hgrow
            have HU75 := Lib.hid (HU65.out.under hb72 (by omega))
            have HF76 := Lib.hid (HF66.out.under hb72 (by omega) hz73)
            clear hb72
            go_roundw
            case rel => exact ⟨xs ++ [x63], by simp; omega, HR74.out, HU75.out.mono (by simp; omega), HF76.out⟩
            case measure => (simp [slen]; omega)
          case neg =>
            have g1 : decide ((xs.length : Int) < (N4 : Int)) = false := decide_eq_false (by omega)
            have HX := Lib.hid (show xs.length ≤ 21 by omega)
            have HRD := Lib.hid (CellO.rd (CellO.of_row (show RowI wo w.heap.size (.slice ad1 xs.length cap1) xs from HR.out)))
            go_wp2_with fail
            go_ret
            exact ⟨ad1, cap1, xs, rfl, HX.out, HRD.out, HF.out⟩
      case true =>
        clear hp54
        go_wp2_with fail
        refine (pick_c 2 c (n + 6) w59 HU60.out (by omega)).mono ?_
        rintro e w78 ⟨x77, rfl, hp79, hcu, hch⟩
        have HU80 := Lib.hid hcu; clear hcu
        have HF81 := Lib.hid (HF61.out.trans hch)
        clear hch
        have hz82 := HF81.out.size
        obtain ⟨N4, hN⟩ : ∃ N : Nat, 20 + x77 = N := ⟨(20 + x77).toNat, by omega⟩
        have eN : IntKind.i64.wrap (20 + x77) = (N4 : Int) := by rw [hN]; exact i64_small (by omega) (by omega)
        have hN4 : N4 ≤ 21 := by omega
        clear hp79 hN
        go_wp2_with fail
        go_loopw [9] (fun v wr => ∃ xs : List Int, xs.length ≤ N4 ∧ RowI wr w.heap.size v xs ∧ Cur wr c ((n + 8) + 8 * xs.length) ∧ Chg c w wr) (fun v _ => N4 - slen v)
        case atStart => exact ⟨[], by simp, RowI.nil _ _, HU80.out.mono (by simp), HF81.out⟩
        case round =>
          obtain ⟨xs, hxs, hrow, hcu, hch⟩ := hrel
          have HR := Lib.hid hrow; clear hrow
          have HU := Lib.hid hcu; clear hcu
          have HF := Lib.hid hch; clear hch
          have hsz := HF.out.size
          obtain ⟨wo, rfl⟩ : ∃ wo : World, wo = wr := ⟨_, rfl⟩
          obtain ⟨ad1, cap1, rfl, -⟩ := HR.out.shape
          by_cases hlt : xs.length < N4
          case pos =>
            have g1 : decide ((xs.length : Int) < (N4 : Int)) = true := decide_eq_true (by omega)
            go_wp2_with fail
            refine (HV.out ((n + 8) + 8 * xs.length) wo HU.out (by omega)).mono ?_
            rintro e w84 ⟨x83, rfl, -, hcu, hch⟩
            have HU85 := Lib.hid hcu; clear hcu
            have HF86 := Lib.hid (HF.out.trans hch)
            have HR87 := Lib.hid (row_chg HR.out hch (by omega))
            clear hch
            have hz88 := HF86.out.size
            go_wp2_with (at_builtin; refine wpList_append_lies _ rfl _ _ 29 rfl w.heap.size 3 iI _ 1 8 Try.underlying29 hiI0 hiI1 hiI2 hiI3 rfl (by omega) (.slice ad1 xs.length cap1) xs.length (ints xs) rfl (HR87.out.alloc _) ⟨w84.heap.size, 0, none⟩ 1 1 [.int .i64 x83] rfl rfl (World.news_of_block (cs := #[.int .i64 x83]) (t := 3) (fr := (0, 0)) (heap_alloc_new _ _)) (by simp [Value.oneCell']) (by omega) (by unfold maxLen; omega) (by omega) (by simp; omega) (w84.heap.size + 1) (by simp) ?_; intro g89 cap90 w91 hown hgrow hat hltx; clear hat)
            have hb92 := app_below (Below.refl w.heap.size w84) (by omega) HR87.out hgrow
            have hz93 : w84.heap.size ≤ w91.heap.size := by have := hgrow.size; simp at this; omega
            have HR94 := Lib.hid (row_congr (ys := ints (xs ++ [x83])) hown (m := (xs ++ [x83]).length) (by simp) (by simp [ints])); clear hown
            clear hgrow
            have HU95 := Lib.hid (HU85.out.under hb92 (by omega))
            have HF96 := Lib.hid (HF86.out.under hb92 (by omega) hz93)
            clear hb92
            go_roundw
            case rel => exact ⟨xs ++ [x83], by simp; omega, HR94.out, HU95.out.mono (by simp; omega), HF96.out⟩
            case measure => (simp [slen]; omega)
          case neg =>
            have g1 : decide ((xs.length : Int) < (N4 : Int)) = false := decide_eq_false (by omega)
            have HX := Lib.hid (show xs.length ≤ 21 by omega)
            have HRD := Lib.hid (CellO.rd (CellO.of_row (show RowI wo w.heap.size (.slice ad1 xs.length cap1) xs from HR.out)))
            go_wp2_with fail
            go_ret
            exact ⟨ad1, cap1, xs, rfl, HX.out, HRD.out, HF.out⟩
    case false =>
      go_wp2_with fail
      refine (pick_c (N : Int) c (n + 2) w48 HU49.out (by omega)).mono ?_
      rintro e w98 ⟨x97, rfl, hp99, hcu, hch⟩
      have HU100 := Lib.hid hcu; clear hcu
      have HF101 := Lib.hid (HF50.out.trans hch)
      clear hch
      have hz102 := HF101.out.size
      go_wp2_with fail
      refine (pick_c (N : Int) c (n + 4) w98 HU100.out (by omega)).mono ?_
      rintro e w104 ⟨x103, rfl, hp105, hcu, hch⟩
      have HU106 := Lib.hid hcu; clear hcu
      have HF107 := Lib.hid (HF101.out.trans hch)
      clear hch
      have hz108 := HF107.out.size
      have CC := C2.out x97 x103 w104 HF107.out
      have hcl9 := HCL.out x97 x103
      generalize chX M x97 x103 = X9 at CC hcl9
      generalize chB M x97 x103 = B9 at CC hcl9
      have HCC := Lib.hid CC; have HC9 := Lib.hid hcl9
      clear CC hcl9
      cases B9
      case true =>
        go_wp2_with fail
        refine HCC.out.mono ?_
        rintro e w9 ⟨ad9, cap9, rfl, hrd9, hb9⟩
        rw [show onL true X9 = X9 from rfl] at hrd9 ⊢
        have HX9 := Lib.hid (HC9.out (by trivial)); have HR9 := Lib.hid hrd9; have HF9 := Lib.hid (HF107.out.trans (Chg.of_below hb9))
        clear hrd9 hb9
        go_wp2_with fail
        go_ret
        exact ⟨ad9, cap9, X9, rfl, HX9.out, HR9.out, HF9.out⟩
      case false =>
        go_wp2_with fail
        refine HCC.out.mono ?_
        rintro e w9 ⟨ad9, cap9, rfl, hrd9, hb9⟩
        have HU109 := Lib.hid (HU106.out.below hb9)
        have HF110 := Lib.hid (HF107.out.trans (Chg.of_below hb9))
        have hz111 := HF110.out.size
        clear hrd9 hb9
        go_wp2_with fail
        refine (pick_c 4 c (n + 6) w9 HU109.out (by omega)).mono ?_
        rintro e w113 ⟨x112, rfl, hp114, hcu, hch⟩
        have HU115 := Lib.hid hcu; clear hcu
        have HF116 := Lib.hid (HF110.out.trans hch)
        clear hch
        have hz117 := HF116.out.size
        go_wp2_with fail
        refine (one_c 8 c (n + 8) w113 HU115.out (by omega)).mono ?_
        rintro e w119 ⟨b118, rfl, hcu, hch⟩
        have HU120 := Lib.hid hcu; clear hcu
        have HF121 := Lib.hid (HF116.out.trans hch)
        clear hch
        have hz122 := HF121.out.size
        cases b118
        case false =>
          obtain ⟨N4, hN⟩ : ∃ N : Nat, x112 = N := ⟨x112.toNat, by omega⟩
          subst hN
          have hN4 : N4 ≤ 21 := by omega
          clear hp114
          go_wp2_with fail
          go_loopw [9] (fun v wr => ∃ xs : List Int, xs.length ≤ N4 ∧ RowI wr w.heap.size v xs ∧ Cur wr c ((n + 10) + 8 * xs.length) ∧ Chg c w wr) (fun v _ => N4 - slen v)
          case atStart => exact ⟨[], by simp, RowI.nil _ _, HU120.out.mono (by simp), HF121.out⟩
          case round =>
            obtain ⟨xs, hxs, hrow, hcu, hch⟩ := hrel
            have HR := Lib.hid hrow; clear hrow
            have HU := Lib.hid hcu; clear hcu
            have HF := Lib.hid hch; clear hch
            have hsz := HF.out.size
            obtain ⟨wo, rfl⟩ : ∃ wo : World, wo = wr := ⟨_, rfl⟩
            obtain ⟨ad1, cap1, rfl, -⟩ := HR.out.shape
            by_cases hlt : xs.length < N4
            case pos =>
              have g1 : decide ((xs.length : Int) < (N4 : Int)) = true := decide_eq_true (by omega)
              go_wp2_with fail
              refine (HV.out ((n + 10) + 8 * xs.length) wo HU.out (by omega)).mono ?_
              rintro e w124 ⟨x123, rfl, -, hcu, hch⟩
              have HU125 := Lib.hid hcu; clear hcu
              have HF126 := Lib.hid (HF.out.trans hch)
              have HR127 := Lib.hid (row_chg HR.out hch (by omega))
              clear hch
              have hz128 := HF126.out.size
              go_wp2_with (at_builtin; refine wpList_append_lies _ rfl _ _ 29 rfl w.heap.size 3 iI _ 1 8 Try.underlying29 hiI0 hiI1 hiI2 hiI3 rfl (by omega) (.slice ad1 xs.length cap1) xs.length (ints xs) rfl (HR127.out.alloc _) ⟨w124.heap.size, 0, none⟩ 1 1 [.int .i64 x123] rfl rfl (World.news_of_block (cs := #[.int .i64 x123]) (t := 3) (fr := (0, 0)) (heap_alloc_new _ _)) (by simp [Value.oneCell']) (by omega) (by unfold maxLen; omega) (by omega) (by simp; omega) (w124.heap.size + 1) (by simp) ?_; intro g129 cap130 w131 hown hgrow hat hltx; clear hat)
              have hb132 := app_below (Below.refl w.heap.size w124) (by omega) HR127.out hgrow
              have hz133 : w124.heap.size ≤ w131.heap.size := by have := hgrow.size; simp at this; omega
              have HR134 := Lib.hid (row_congr (ys := ints (xs ++ [x123])) hown (m := (xs ++ [x123]).length) (by simp) (by simp [ints])); clear hown
              clear hgrow
              have HU135 := Lib.hid (HU125.out.under hb132 (by omega))
              have HF136 := Lib.hid (HF126.out.under hb132 (by omega) hz133)
              clear hb132
              go_roundw
              case rel => exact ⟨xs ++ [x123], by simp; omega, HR134.out, HU135.out.mono (by simp; omega), HF136.out⟩
              case measure => (simp [slen]; omega)
            case neg =>
              have g1 : decide ((xs.length : Int) < (N4 : Int)) = false := decide_eq_false (by omega)
              have HX := Lib.hid (show xs.length ≤ 21 by omega)
              have HRD := Lib.hid (CellO.rd (CellO.of_row (show RowI wo w.heap.size (.slice ad1 xs.length cap1) xs from HR.out)))
              go_wp2_with fail
              go_ret
              exact ⟨ad1, cap1, xs, rfl, HX.out, HRD.out, HF.out⟩
        case true =>
          clear hp114
          go_wp2_with fail
          refine (pick_c 2 c (n + 10) w119 HU120.out (by omega)).mono ?_
          rintro e w138 ⟨x137, rfl, hp139, hcu, hch⟩
          have HU140 := Lib.hid hcu; clear hcu
          have HF141 := Lib.hid (HF121.out.trans hch)
          clear hch
          have hz142 := HF141.out.size
          obtain ⟨N4, hN⟩ : ∃ N : Nat, 20 + x137 = N := ⟨(20 + x137).toNat, by omega⟩
          have eN : IntKind.i64.wrap (20 + x137) = (N4 : Int) := by rw [hN]; exact i64_small (by omega) (by omega)
          have hN4 : N4 ≤ 21 := by omega
          clear hp139 hN
          go_wp2_with fail
          go_loopw [9] (fun v wr => ∃ xs : List Int, xs.length ≤ N4 ∧ RowI wr w.heap.size v xs ∧ Cur wr c ((n + 12) + 8 * xs.length) ∧ Chg c w wr) (fun v _ => N4 - slen v)
          case atStart => exact ⟨[], by simp, RowI.nil _ _, HU140.out.mono (by simp), HF141.out⟩
          case round =>
            obtain ⟨xs, hxs, hrow, hcu, hch⟩ := hrel
            have HR := Lib.hid hrow; clear hrow
            have HU := Lib.hid hcu; clear hcu
            have HF := Lib.hid hch; clear hch
            have hsz := HF.out.size
            obtain ⟨wo, rfl⟩ : ∃ wo : World, wo = wr := ⟨_, rfl⟩
            obtain ⟨ad1, cap1, rfl, -⟩ := HR.out.shape
            by_cases hlt : xs.length < N4
            case pos =>
              have g1 : decide ((xs.length : Int) < (N4 : Int)) = true := decide_eq_true (by omega)
              go_wp2_with fail
              refine (HV.out ((n + 12) + 8 * xs.length) wo HU.out (by omega)).mono ?_
              rintro e w144 ⟨x143, rfl, -, hcu, hch⟩
              have HU145 := Lib.hid hcu; clear hcu
              have HF146 := Lib.hid (HF.out.trans hch)
              have HR147 := Lib.hid (row_chg HR.out hch (by omega))
              clear hch
              have hz148 := HF146.out.size
              go_wp2_with (at_builtin; refine wpList_append_lies _ rfl _ _ 29 rfl w.heap.size 3 iI _ 1 8 Try.underlying29 hiI0 hiI1 hiI2 hiI3 rfl (by omega) (.slice ad1 xs.length cap1) xs.length (ints xs) rfl (HR147.out.alloc _) ⟨w144.heap.size, 0, none⟩ 1 1 [.int .i64 x143] rfl rfl (World.news_of_block (cs := #[.int .i64 x143]) (t := 3) (fr := (0, 0)) (heap_alloc_new _ _)) (by simp [Value.oneCell']) (by omega) (by unfold maxLen; omega) (by omega) (by simp; omega) (w144.heap.size + 1) (by simp) ?_; intro g149 cap150 w151 hown hgrow hat hltx; clear hat)
              have hb152 := app_below (Below.refl w.heap.size w144) (by omega) HR147.out hgrow
              have hz153 : w144.heap.size ≤ w151.heap.size := by have := hgrow.size; simp at this; omega
              have HR154 := Lib.hid (row_congr (ys := ints (xs ++ [x143])) hown (m := (xs ++ [x143]).length) (by simp) (by simp [ints])); clear hown
              clear hgrow
              have HU155 := Lib.hid (HU145.out.under hb152 (by omega))
              have HF156 := Lib.hid (HF146.out.under hb152 (by omega) hz153)
              clear hb152
              go_roundw
              case rel => exact ⟨xs ++ [x143], by simp; omega, HR154.out, HU155.out.mono (by simp; omega), HF156.out⟩
              case measure => (simp [slen]; omega)
            case neg =>
              have g1 : decide ((xs.length : Int) < (N4 : Int)) = false := decide_eq_false (by omega)
              have HX := Lib.hid (show xs.length ≤ 21 by omega)
              have HRD := Lib.hid (CellO.rd (CellO.of_row (show RowI wo w.heap.size (.slice ad1 xs.length cap1) xs from HR.out)))
              go_wp2_with fail
              go_ret
              exact ⟨ad1, cap1, xs, rfl, HX.out, HRD.out, HF.out⟩

end Go.Proofs.Ytbffcbjbeeagmaa
