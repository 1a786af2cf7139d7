/-
  Some texts of this proof in one: CpC CpU CpV. Each part tells what it proves. By an AI agent.
-/
import Derived.Test.YtbcmnhppodfhpaaGreatCpQ
import Derived.Test.YtbcmnhppodfhpaaGreatHalf

/-
  A search with a plain closure (picked from Chips and Pile) By an AI agent.
-/
namespace Go.Proofs.YtbcmnhppodfhpaaGreat
open Go.RowKit

theorem callFunc_plain {P : Program} {f : FuncId} {fn : Func} (hf : P.funcs[f]? = some fn) (hname : (fn.name == "runtime.NumGoroutine") = false) (hb : fn.body.isNone = false) (args : Array Value) (w : World) :
    (callFunc f args).run P w = .ok (.enter f args) w := by
  have h1 : fn.name ≠ "runtime.NumGoroutine" := by simpa using hname
  have h2 : fn.body ≠ none := by intro q; rw [q] at hb; simp at hb
  simp [callFunc, hf, h1, h2]
set_option maxHeartbeats 400000 in
theorem indexFunc0_any (fid : FuncId) (p : Int → Bool) (ad : Option Addr) (cap : Nat) (xs : List Int) (w : World) (hl : xs.length ≤ 1048576) (hr : RdI w ad xs)
    (hcf : ∀ (xa : Array Value) (w : World), (callFunc fid xa).run Tryz.prog w = .ok (.enter fid xa) w) (hf : ∀ x, Calls Tryz.prog fid #[.int .i64 x] w fun e w' => e = .returned (.bool (p x)) ∧ w = w') :
    Calls Tryz.prog 71 #[.slice ad xs.length cap, .func (Fn.func fid) #[] #[]] w fun e w' => (∃ r : Int, e = .returned (.int .i64 r) ∧ ((0 ≤ r ∧ xs.any p = true) ∨ (r = -1 ∧ xs.any p = false))) ∧ w = w' := by
  have HR := Lib.hid hr; clear hr
  have HF := Lib.hid hf; clear hf
  go_enter Tryz.func71, Tryz.ntmps71
  go_wp2_with fail
  go_loop [8] (fun i => ∃ k : Nat, k ≤ xs.length ∧ i = .int .i64 k ∧ ∀ j, j < k → p (xs.getD j 0) = false) (fun i => xs.length - (intOf i).toNat)
  case atStart => exact ⟨0, Nat.zero_le _, rfl, fun j hj => by omega⟩
  case round =>
    obtain ⟨k, hk, rfl, hj⟩ := hrel
    have HJ := Lib.hid hj; clear hj
    by_cases hlt : k < xs.length
    · obtain ⟨b, off, rfl, hb, cc⟩ := HR.out k hlt
      generalize hx : xs.getD k 0 = x at cc
      have HX := Lib.hid hx; clear hx
      by_cases h1 : p x = true
      · go_wp2_with fail
        refine (HF.out x).mono ?_
        rw [h1]
        rintro e w' ⟨rfl, rfl⟩
        go_wp2_with fail
        go_ret
        refine ⟨⟨k, rfl, Or.inl ⟨by omega, ?_⟩⟩, rfl⟩
        rw [List.any_eq_true]
        exact ⟨x, by rw [← HX.out]; simp [List.getD, hlt], h1⟩
      · have h1' := Bool.eq_false_iff.2 h1
        go_wp2_with fail
        refine (HF.out x).mono ?_
        rw [h1']
        rintro e w' ⟨rfl, rfl⟩
        go_wp2_with fail
        go_round
        case rel =>
          refine ⟨k + 1, by omega, by go_num, fun j hj => ?_⟩
          by_cases e : j = k
          · subst e; rw [HX.out]; exact h1'
          · exact HJ.out j (by omega)
        case measure => simp [intOf]; omega
    · have he : k = xs.length := by omega
      subst he
      go_wp2_with fail
      go_ret
      refine ⟨⟨-1, rfl, Or.inr ⟨rfl, ?_⟩⟩, rfl⟩
      intro x hx
      obtain ⟨j, hj, rfl⟩ := List.getElem_of_mem hx
      have := HJ.out j hj
      simpa [List.getD, hj] using this
set_option maxHeartbeats 400000 in
theorem containsFunc0_any (fid : FuncId) (p : Int → Bool) (ad : Option Addr) (cap : Nat) (xs : List Int) (w : World) (hl : xs.length ≤ 1048576) (hr : RdI w ad xs)
    (hcf : ∀ (xa : Array Value) (w : World), (callFunc fid xa).run Tryz.prog w = .ok (.enter fid xa) w) (hf : ∀ x, Calls Tryz.prog fid #[.int .i64 x] w fun e w' => e = .returned (.bool (p x)) ∧ w = w') :
    Calls Tryz.prog 33 #[.slice ad xs.length cap, .func (Fn.func fid) #[] #[]] w fun e w' => e = .returned (.bool (xs.any p)) ∧ w = w' := by
  go_enter Tryz.func33, Tryz.ntmps33
  go_wp2_with fail
  refine (indexFunc0_any fid p ad cap xs w hl hr hcf hf).mono ?_
  rintro e w' ⟨⟨r, rfl, hr1⟩, rfl⟩
  have HA := Lib.hid hr1; clear hr1
  by_cases h0 : 0 ≤ r
  · go_wp2
    go_ret
    exact ⟨ret_bool (by rcases HA.out with h | h; exact h.2.symm; omega), rfl⟩
  · have h0' : r < 0 := by omega
    go_wp2
    go_ret
    exact ⟨ret_bool (by rcases HA.out with h | h; omega; rw [h.2]; simp; omega), rfl⟩
end Go.Proofs.YtbcmnhppodfhpaaGreat

/-
  The areas of all cells, and whether all are 1: the program's. By an AI agent.
-/
namespace Go.Proofs.YtbcmnhppodfhpaaGreat
open Go.RowKit Go.Maps

/-- the double areas of all cells. -/
def areL (L : List Tm) : List Int := (celA L).map fun xs => areaP (hulX L xs)
theorem hulX_sh {L : List Tm} {xs : List Int} (hp : ∀ k, k < L.length → termB (tmAt L k) = true) (hin : ∀ x ∈ xs, ∃ t : Nat, x = t ∧ t < L.length) : AllSh (hulX L xs) := fun p hq => by
  obtain ⟨t, _, ht, rfl⟩ := hulX_in hin p hq
  have := termB_t (hp t ht)
  exact ⟨by show _ ≤ (tmAt L t).i; omega, by show (tmAt L t).i ≤ _; omega, by show _ ≤ (tmAt L t).j; omega, by show (tmAt L t).j ≤ _; omega⟩
theorem SubM.polygon {w : World} {S : Nat} {L : List Tm} {lt : Value} {d : SubD} (h : SubM w S L lt d) (hp : ∀ k, k < L.length → termB (tmAt L k) = true) (hl : L.length ≤ 12) {ad : Option Addr} {cap : Nat} {xs : List Int} (hx : RdI w ad xs) (hm : xs ∈ celA L) :
    Calls Tryz.prog 73 #[.pointer (some ⟨S, 0, none⟩), .slice ad xs.length cap] w (HullTo w (hulX L xs)) := by
  obtain ⟨h1, h2, h3⟩ := celA_in hm
  exact polygon_c S d.bp d.op d.cpp L ad cap xs w h.own.lt (h.own.cell? (i := 1) rfl) h.hbp h.pt hp hx (by omega) (List.length_pos_iff.2 h1) h3

set_option maxHeartbeats 1600000 in
set_option maxRecDepth 100000 in
theorem areas_c (S : Nat) (L : List Tm) (lt : Value) (d : SubD) (w : World) (h : SubM w S L lt d) (hp : ∀ k, k < L.length → termB (tmAt L k) = true) (hl : L.length ≤ 12) :
    Calls Tryz.prog 34 #[.pointer (some ⟨S, 0, none⟩)] w fun e w' => ∃ v, e = .returned v ∧ RowI w' w.heap.size v (areL L) ∧ Below w.heap.size w w' := by
  have HSM := Lib.hid h
  have HPO := Lib.hid (fun w' (hb : Below w.heap.size w w') ad cap k (hk : k < (celA L).length) (hx : RdI w' ad ((celA L).getD k [])) => (h.below hb).polygon hp hl (cap := cap) hx (by rw [List.getD_eq_getElem?_getD, List.getElem?_eq_getElem hk, Option.getD_some]; exact List.getElem_mem hk))
  have HSH := Lib.hid (fun k (hk : k < (celA L).length) => show AllSh (hulX L ((celA L).getD k [])) ∧ (hulX L ((celA L).getD k [])).length ≤ 24 from by
    obtain ⟨_, h2, h3⟩ := celA_in (L := L) (x := (celA L).getD k []) (by rw [List.getD_eq_getElem?_getD, List.getElem?_eq_getElem hk, Option.getD_some]; exact List.getElem_mem hk)
    have := hulX_len L ((celA L).getD k [])
    exact ⟨hulX_sh hp h3, by omega⟩)
  have k2 := h.own.cell? (i := 2) rfl
  have hS := h.own.lt
  have hcl := celA_len L hl
  have HCE := Lib.hid h.cells
  have HTK := Lib.hid (fun k (hk : k < (celA L).length) => takeI_snoc (celA L) k (fun xs => areaP (hulX L xs)) [] hk)
  have HAR := Lib.hid (show areL L = (celA L).map fun xs => areaP (hulX L xs) from rfl)
  generalize areL L = AR at HAR ⊢
  generalize celA L = C at HPO HSH k2 hcl HCE HTK HAR
  obtain ⟨n, hn⟩ : ∃ n, C.length = n := ⟨_, rfl⟩
  rw [hn] at HPO HSH k2 hcl HTK
  have HN := Lib.hid hn
  clear hn h hp
  have HK2 := Lib.hid k2
  have HROW := Lib.hid (show RowI (w.alloc (.cells #[] 3)) w.heap.size (.slice (some ⟨w.heap.size, 0, none⟩) 0 0) [] from row_empty w 3)
  have hbA : Below w.heap.size w (w.alloc (.cells #[] 3)) := bal_alloc (Below.refl _ _)
  have k2 := bcell hbA hS k2
  go_enter Tryz.func34, Tryz.ntmps34
  go_wp2_with fail
  go_loopw [3, 12] (fun s i wr => ∃ (k : Nat) (ys : List Int), k ≤ n ∧ i = .int .i64 k ∧ ((C.take k).map fun xs => areaP (hulX L xs)) = ys ∧ ys.length = k ∧ RowI wr w.heap.size s ys ∧ Below w.heap.size w wr) (fun _ i _ => n - (intOf i).toNat)
  case atStart => exact ⟨0, [], Nat.zero_le _, rfl, rfl, rfl, HROW.out, hbA⟩
  case round =>
    obtain ⟨wE, rfl⟩ : ∃ x : World, x = wr := ⟨_, rfl⟩
    obtain ⟨k, ys, hk, rfl, hys, hyl, hrow, hbel⟩ := hrel
    obtain ⟨ady, cpy, rfl, _⟩ := hrow.shape
    rw [hyl] at hrow ⊢
    have HYS := Lib.hid hys; have HRW := Lib.hid hrow; have HYL := Lib.hid hyl
    have hsz := hbel.size
    clear hys hrow hyl k2 hbA HROW
    by_cases hlt : k < n
    case neg =>
      obtain rfl : n = k := by omega
      have HE := Lib.hid (show AR = ys by rw [HAR.out, ← HYS.out, List.take_of_length_le (by rw [HN.out]; exact Nat.le_refl _)])
      go_wp2_with fail
      go_ret
      exact ⟨_, rfl, by rw [HE.out]; exact HRW.out, hbel⟩
    case pos =>
      obtain ⟨b, o, a, c, hade, _, hb, kc, hrx, _⟩ := (HCE.out.below hbel) k (by rw [HN.out]; exact hlt)
      have CPO := HPO.out wE hbel a c k hlt hrx
      have HSK := HSH.out k hlt
      have HS := HTK.out k hlt
      rw [HYS.out] at HS
      rw [hade]
      generalize C.getD k [] = xs at kc hrx CPO HSK HS
      have CDA := Lib.hid (fun ad cap w (hr : RdP w ad (hulX L xs)) => doubleArea_c ad cap (hulX L xs) w hr (by omega) HSK.1)
      generalize hulX L xs = H at CPO CDA HS
      generalize areaP H = AH at CDA HS
      have CPO := Lib.hid CPO; have HS := Lib.hid HS
      have x1 : (0 : Int) ≤ (k : Int) := by omega
      have x2 : (k : Int) < (n : Int) := by omega
      clear hrx HSK hade
      go_wp2_with fail
      refine CPO.out.mono ?_
      rintro e w3 ⟨adh, caph, rfl, hrh, hb3⟩
      have CD := Lib.hid (CDA.out adh caph w3 hrh)
      clear CPO hrh CDA kc
      go_wp2_with fail
      refine CD.out.mono ?_
      rintro e w4 ⟨rfl, hb4⟩
      have hbX := ball (ball hbel hb3) hb4
      have hbX2 := hbX.size
      have HRC := Lib.hid ((HRW.out.below hb3).below hb4)
      clear hb3 hb4 CD
      go_wp2_with (at_builtin; refine wpList_appN rfl _ _ rfl w.heap.size _ 0 1 _ ys [AH] (k + 1) (by rw [HYL.out]; rfl) rfl rfl (HRC.out.below ((Below.refl _ _).alloc (Nat.le_refl _) _)) (rdI_one _ _ _ rfl) (by rw [HYL.out]; omega) (by simp) (by simp; omega) ?_; intro v5 wm hown hsh hbm hgr)
      have hb5 := (bal_alloc (o := .cells #[.int .i64 AH] 3) hbX).trans hbm
      have HO5 := Lib.hid hown; clear hown hsh hgr hbm
      go_wp2_with fail
      go_roundw
      case rel => exact ⟨k + 1, ys ++ [AH], by omega, by go_num, HS.out, by rw [List.length_append, HYL.out]; rfl, HO5.out, hb5⟩
      case measure => simp [intOf]; omega
end Go.Proofs.YtbcmnhppodfhpaaGreat

/-
  CellAreas and IsSmooth: the program's. By an AI agent.
-/
namespace Go.Proofs.YtbcmnhppodfhpaaGreat
open Go.RowKit Go.Maps

theorem planeB_t {L : List Tm} (h : planeB L = true) : 0 < L.length ∧ L.length ≤ 12 ∧ ∀ k, k < L.length → termB (tmAt L k) = true := by
  unfold planeB at h
  rw [Bool.and_eq_true, inB_t] at h
  exact ⟨by omega, by omega, fun k hk => plnK_term h.2 hk⟩
/-- What subdivided gives. -/
def SubO (B : Bool) (L : List Tm) (lt : Value) (w : World) (e : Ending) (w' : World) : Prop := Below w.heap.size w w' ∧ if B = true then ∃ (S : Nat) (d : SubD), e = .returned (.tuple #[.pointer (some ⟨S, 0, none⟩), .bool true]) ∧ SubM w' S L lt d else e = .returned (.tuple #[.pointer none, .bool false])
set_option maxHeartbeats 800000 in
theorem subdivided_c (ad : Option Addr) (cap : Nat) (L : List Tm) (w : World) (hr : RdT w ad L) (hl : L.length ≤ 1048576) :
    Calls Tryz.prog 26 #[.slice ad L.length cap] w (SubO (planeB L) L (.slice ad L.length cap) w) := by
  have CI := Lib.hid (isPlane_c ad cap L w hr hl)
  cases hB : planeB L
  case false =>
    rw [hB] at CI
    have HQ := Lib.hid (fun w' (h : Below w.heap.size w w') => show SubO false L (.slice ad L.length cap) w (.returned (.tuple #[.pointer none, .bool false])) w' from ⟨h, by rw [if_neg (by simp)]⟩)
    generalize SubO false L (.slice ad L.length cap) w = Q at HQ ⊢
    generalize L.length = n at CI ⊢
    clear hr hB hl
    go_enter Tryz.func26, Tryz.ntmps26
    go_wp2_with fail
    refine CI.out.mono ?_
    rintro e w1 ⟨rfl, hb1⟩
    go_wp2_with fail
    exact HQ.out _ hb1
  case true =>
    rw [hB] at CI
    obtain ⟨h0, h12, hp⟩ := planeB_t hB
    obtain ⟨bl, ol, rfl, _⟩ := hr 0 h0
    have CS := Lib.hid (fun w' (h : Below w.heap.size w w') => subdivide_c bl ol cap L w' (hr.below h) hp h12 h0)
    have HQ := Lib.hid (fun w' (h : Below w.heap.size w w') S d (h2 : SubM w' S L (.slice (some ⟨bl, ol, none⟩) L.length cap) d) => show SubO true L (.slice (some ⟨bl, ol, none⟩) L.length cap) w (.returned (.tuple #[.pointer (some ⟨S, 0, none⟩), .bool true])) w' from ⟨h, by rw [if_pos rfl]; exact ⟨S, d, rfl, h2⟩⟩)
    generalize SubO true L (.slice (some ⟨bl, ol, none⟩) L.length cap) w = Q at HQ ⊢
    unfold SubR at CS
    obtain ⟨n, hn⟩ : ∃ n, L.length = n := ⟨_, rfl⟩
    rw [hn] at CI CS HQ ⊢
    clear hr hB hl hn h0 h12 hp
    go_enter Tryz.func26, Tryz.ntmps26
    go_wp2_with fail
    refine CI.out.mono ?_
    rintro e w1 ⟨rfl, hb1⟩
    go_wp2_with fail
    refine (CS.out _ hb1).mono ?_
    rintro e w2 ⟨S, d, rfl, hsm, hb2⟩
    have HF := Lib.hid (HQ.out _ (ball hb1 hb2) S d hsm)
    clear hsm
    go_wp2_with fail
    exact HF.out

/-- all cells have the area 1, and there are some. -/
def smoB (L : List Tm) : Bool := decide (0 < (celA L).length) && !((areL L).any fun a => decide (a ≠ 1))
set_option maxHeartbeats 800000 in
theorem smooth1_c (x : Int) (w : World) : Calls Tryz.prog 35 #[.int .i64 x] w fun e w' => e = .returned (.bool (decide (x ≠ 1))) ∧ w = w' := by
  by_cases h : x = 1
  · subst h
    go_enter Tryz.func35, Tryz.ntmps35
    go_wp2_with fail
    go_ret
    exact ⟨by first | rfl | simp, rfl⟩
  · have d1 : (x != 1) = true := bne_iff_ne.2 h
    have d2 : decide (x ≠ 1) = true := decide_eq_true h
    rw [d2]
    go_enter Tryz.func35, Tryz.ntmps35
    go_wp2_with fail
    go_ret
    exact ⟨by first | rfl | simp [d1], rfl⟩
set_option maxHeartbeats 1600000 in
theorem iIsSmooth_c (ad : Option Addr) (cap : Nat) (L : List Tm) (w : World) (hr : RdT w ad L) (hl : L.length ≤ 1048576) :
    Calls Tryz.prog 12 #[.slice ad L.length cap] w fun e w' => e = .returned (.tuple #[.bool (planeB L && smoB L), .bool (planeB L)]) ∧ Below w.heap.size w w' := by
  have CI := Lib.hid (subdivided_c ad cap L w hr hl)
  cases hB : planeB L
  case false =>
    rw [hB] at CI
    rw [Bool.false_and]
    generalize L.length = n at CI ⊢
    clear hr hB hl
    go_enter Tryz.func12, Tryz.ntmps12
    go_wp2_with fail
    refine CI.out.mono ?_
    rintro e w1 ⟨hb1, he⟩
    rw [if_neg (by simp)] at he
    subst he
    go_wp2_with fail
    exact bodyPost_ret (v := .tuple #[.bool false, .bool false]) (by simp [results, Tryz.results12, go_sem]) rfl ⟨rfl, hb1⟩
  case true =>
    rw [hB] at CI
    rw [Bool.true_and]
    obtain ⟨h0, h12, hp⟩ := planeB_t hB
    have hcl := celA_len L h12
    have hal : (areL L).length ≤ 1728 := by unfold areL; rw [List.length_map]; exact hcl
    have CA := Lib.hid (fun w' S d (h : SubM w' S L (.slice ad L.length cap) d) => areas_c S L _ d w' h hp h12)
    have HCO := Lib.hid (fun ad cap w (h : RdI w ad (areL L)) => containsFunc0_any 35 (fun x => decide (x ≠ 1)) ad cap (areL L) w (by omega) h (callFunc_plain Tryz.func35 (by kernel_rfl) (by kernel_rfl)) (fun x => smooth1_c x _))
    have HK2 := Lib.hid (fun w' S d (h : SubM w' S L (.slice ad L.length cap) d) => h.own.cell? (i := 2) rfl)
    have HSB := Lib.hid (show smoB L = (decide (0 < (celA L).length) && !((areL L).any fun a => decide (a ≠ 1))) from rfl)
    generalize smoB L = RES at HSB ⊢
    generalize hany : (areL L).any (fun a => decide (a ≠ 1)) = AN at HCO HSB
    generalize areL L = AR at CA HCO hal
    obtain ⟨n, hn⟩ : ∃ n, L.length = n := ⟨_, rfl⟩
    rw [hn] at CI CA HK2 ⊢
    obtain ⟨nC, hnC⟩ : ∃ z, (celA L).length = z := ⟨_, rfl⟩
    rw [hnC] at HSB
    have HNC := Lib.hid hnC
    clear hr hB hl hn h0 h12 hp hany hcl hnC
    go_enter Tryz.func12, Tryz.ntmps12
    go_wp2_with fail
    refine CI.out.mono ?_
    rintro e w1 ⟨hb1, he⟩
    rw [if_pos rfl] at he
    obtain ⟨S, d, rfl, hsm⟩ := he
    have C2 := Lib.hid (CA.out w1 S d hsm)
    have k2 := HK2.out w1 S d hsm
    rw [HNC.out] at k2
    clear hsm CA CI HK2
    by_cases hz : 0 < nC
    case neg =>
      obtain rfl : nC = 0 := by omega
      have hR : RES = false := by rw [HSB.out]; rfl
      clear HSB
      go_wp2_with fail
      exact bodyPost_ret (v := .tuple #[.bool false, .bool true]) (by simp [results, Tryz.results12, go_sem]) rfl ⟨by rw [hR], hb1⟩
    case pos =>
      have hR : RES = !AN := by rw [HSB.out, decide_eq_true hz, Bool.true_and]
      have HR := Lib.hid hR
      have z1 : decide ((nC : Int) > 0) = true := decide_eq_true (by omega)
      have z2 : decide (0 < (nC : Int)) = true := decide_eq_true (by omega)
      have z3 : decide (0 < nC) = true := decide_eq_true hz
      clear HSB hR
      go_wp2_with fail
      refine C2.out.mono ?_
      rintro e w2 ⟨v, rfl, hrow, hb2⟩
      obtain ⟨ad2, cp2, rfl, hrd⟩ := RowI.shape hrow
      have C3 := Lib.hid (HCO.out ad2 cp2 w2 hrd)
      have HBF := Lib.hid (ball hb1 hb2)
      clear hrow hrd C2 HCO hb1 hb2
      go_wp2_with fail
      refine C3.out.mono ?_
      rintro e w3 ⟨rfl, rfl⟩
      cases AN
      · go_wp2_with fail
        exact bodyPost_ret (v := .tuple #[.bool true, .bool true]) (by simp [results, Tryz.results12, go_sem]) rfl ⟨by rw [HR.out]; rfl, HBF.out⟩
      · go_wp2_with fail
        exact bodyPost_ret (v := .tuple #[.bool false, .bool true]) (by simp [results, Tryz.results12, go_sem]) rfl ⟨by rw [HR.out]; rfl, HBF.out⟩
end Go.Proofs.YtbcmnhppodfhpaaGreat
