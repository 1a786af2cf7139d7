/-
  The reference's LegalSets.
-/
import Derived.Test.YtmhmdbmiimpbnaaSetS
namespace Go.Proofs.Ytmhmdbmiimpbnaa
open Go.RowKit

/-- May a set be fired? -/
def lglP (N : Nat) (bet : Nat → Nat → Int) (c : Nat → Int) (s : List Int) (v : Int) : Bool := decide (outF bet (tab N (setF s)) v.toNat N ≤ c v.toNat)
def lglB (N : Nat) (bet : Nat → Nat → Int) (c : Nat → Int) (s : List Int) : Bool := s.all (lglP N bet c s)
theorem accF_sm (s : Nat → Int) (L : Nat → Nat → Int) (j : Nat) : ∀ k, accF s L k j = sm k fun v => s v * L v j
  | 0 => rfl
  | k + 1 => by rw [accF_succ, accF_sm s L j k]; rfl
theorem setF_mk (s : List Int) : setF s = mk01 fun u => s.contains (u : Int) := rfl
theorem fire_out {N : Nat} {bet : Nat → Nat → Int} {val : Nat → Int} (g : Gr N bet val) {s : List Int} {v : Nat} (hv : v < N) (hm : (v : Int) ∈ s) : accF (fun u => (tab N (setF s)).getD u 0) (lapE bet val) N v = outF bet (tab N (setF s)) v N := by
  rw [accF_sm, sm_congr (g := fun u => setF s u * lapE bet val u v) (fun u hu => by rw [tab_getD hu])]
  have h1 := ap_eq g hv (setF s)
  unfold ap at h1
  rw [h1]
  have h2 := out_marks g (fun u => s.contains (u : Int)) hv
  rw [← setF_mk] at h2
  have h3 : setF s v = 1 := by unfold setF; rw [if_pos (by simpa using hm)]
  have h4 : sm N (fun u => setF s u * bet u v) = sm N (fun u => if s.contains (u : Int) = true then bet v u else 0) := sm_congr fun u _ => by
    unfold setF
    by_cases e : s.contains (u : Int) = true
    · rw [if_pos e, if_pos e, g.sym u v]; omega
    · rw [if_neg e, if_neg e]; omega
  rw [h3, h4]
  omega
theorem sets_ne {q : Nat} : ∀ (k v : Nat) (s : List Int), ∀ t ∈ sets q k v s, t ≠ []
  | 0, _, _, t, ht => by simp [sets] at ht
  | k + 1, v, s, t, ht => by
    by_cases e : v = q
    · rw [sets_skip e] at ht; exact sets_ne k (v + 1) s t ht
    · rw [sets_take e] at ht
      rcases List.mem_append.1 ht with h1 | h1
      · rcases List.mem_cons.1 h1 with h2 | h2
        · subst h2; simp
        · exact sets_ne k (v + 1) _ t h2
      · exact sets_ne k (v + 1) s t h1
noncomputable def legalSetsR (n : Int) (ls : List Lk) (d : List Int) (q : Int) : List (List Int) × Bool := if askB n ls d q = true ∧ owesB n.toNat q.toNat (fd d) = false then ((sets q.toNat n.toNat 0 []).filter (lglB n.toNat (betF ls) (fd d)), true) else ([], false)
theorem take_filter {α : Type} (l : List α) (p : α → Bool) (d : α) {k : Nat} (hk : k < l.length) : (l.take (k + 1)).filter p = (l.take k).filter p ++ if p (l.getD k d) = true then [l.getD k d] else [] := by
  rw [take_snoc l k d hk, List.filter_append]
  congr 1
  by_cases h : p (l.getD k d) = true
  · rw [if_pos h, List.filter_cons, if_pos h]; rfl
  · rw [if_neg h, List.filter_cons, if_neg h]; rfl

set_option maxHeartbeats 6400000 in
set_option maxRecDepth 100000 in
theorem specSets_c (n : Int) (adl : Option Addr) (capl : Nat) (ls : List Lk) (a : Addr) (cap : Nat) (d : List Int) (q : Int) (w : World) (hl : ls.length ≤ 1048576) (hr : RdL w adl ls) (hl' : d.length ≤ 1048576) (hr' : RdI w (some a) d) :
    Calls Try.prog 51 #[.int .i64 n, .slice adl ls.length capl, .slice (some a) d.length cap, .int .i64 q] w (RetRB (legalSetsR n ls d q) w) := by
  by_cases hk : askB n ls d q = true
  case neg =>
    have hk' := Bool.eq_false_iff.2 hk
    have hR := Lib.hid (show legalSetsR n ls d q = ([], false) from if_neg (fun h => hk h.1))
    go_enter Try.func51, Try.ntmps51
    go_wp2_with fail
    refine (rdAsked_any n adl capl ls (some a) cap d q _ hl hr hl' hr').mono ?_
    rw [hk']
    rintro e w1 ⟨rfl, hb1⟩
    go_wp2
    go_ret2
    exact ⟨_, by rw [hR.out]; rfl, by rw [hR.out]; exact Or.inl ⟨rfl, rfl⟩, hb1⟩
  case pos =>
    obtain ⟨hgm, hq0, hq1⟩ := askB_t hk
    obtain ⟨hg, hc, hdl, hda⟩ := gameB_t hgm
    obtain ⟨hn1, hn2⟩ := good_n hg
    obtain ⟨N, rfl⟩ : ∃ N : Nat, n = N := ⟨n.toNat, by omega⟩
    obtain ⟨q, rfl⟩ : ∃ k : Nat, q = k := ⟨q.toNat, by omega⟩
    have hdN : d.length = N := by omega
    have HK := Lib.hid hk
    have HG := Lib.hid hg
    have HGR := Lib.hid (gr_of (N := N) rfl hg)
    have HDA := Lib.hid (fun j (hj : j < N) => allB_t.1 hda j (by omega))
    have hasked := fun w => rdAsked_any N adl capl ls (some a) cap d q w hl
    rw [hk] at hasked
    rw [hdN] at hasked ⊢
    have HA := Lib.hid hasked; clear hasked
    have how := fun w => rdOwes_any N q (some a) cap d w (by omega) hdN
    have hR := Lib.hid (show legalSetsR N ls d q = if owesB N q (fd d) = false then ((sets q N 0 []).filter (lglB N (betF ls) (fd d)), true) else ([], false) by unfold legalSetsR; rw [hk]; simp)
    generalize owesB N q (fd d) = ow at how hR
    have HOW := Lib.hid how; clear how
    have HDN := Lib.hid hdN; clear hdN hdl hda hgm hk hc
    cases ow
    case true =>
      go_enter Try.func51, Try.ntmps51
      go_wp2_with fail
      refine (HA.out _ hr (by rw [← HDN.out]; exact hl') hr').mono ?_
      rintro e w1 ⟨rfl, hb1⟩
      go_wp2_with fail
      refine (HOW.out _ (hr'.below hb1)).mono ?_
      rintro e w' ⟨rfl, rfl⟩
      go_wp2
      go_ret2
      have hR2 := hR.out.trans (if_neg (by simp))
      exact ⟨_, by rw [hR2]; rfl, by rw [hR2]; exact Or.inl ⟨rfl, rfl⟩, hb1⟩
    case false =>
      have hR2 := Lib.hid (hR.out.trans (if_pos (by simp))); clear hR
      have hrs := rdSets_any N q (by omega) N 0 [] (.slice none 0 0)
      rw [show ((0 : Nat) : Int) = 0 from rfl] at hrs
      have HRS := Lib.hid hrs; clear hrs
      have hsl := sets_len q N 0 []
      have h2k : 2 ^ N ≤ 256 := Nat.le_trans (Nat.pow_le_pow_right (by omega) (show N ≤ 8 by omega)) (by decide)
      have HOK := Lib.hid (sets_ok q N N 0 [] (by omega) (by simp [Ris]) (by simp))
      have HNE := Lib.hid (sets_ne (q := q) N 0 [])
      generalize hrows : sets q N 0 [] = rows at HRS HOK HNE hsl hR2
      have hrl : rows.length ≤ 255 := by omega
      clear hrows hsl h2k
      obtain ⟨i1, hi1, hy0, hy1, hy2⟩ := info_parts Try.infoII
      go_enter Try.func51, Try.ntmps51
      go_wp2_with fail
      refine (HA.out _ hr (by rw [← HDN.out]; exact hl') hr').mono ?_
      rintro e w1 ⟨rfl, hb1⟩
      go_wp2_with fail
      refine (HOW.out _ (hr'.below hb1)).mono ?_
      rintro e w' ⟨rfl, rfl⟩
      go_wp2_with fail
      refine (HRS.out w1 (by omega) (by simp) (Or.inl ⟨rfl, rfl⟩)).mono ?_
      rintro e w2 ⟨u, vs, rfl, hrow, hb2⟩
      have hbw2 := ball hb1 hb2
      have hz1 := hb1.size
      have HROW := Lib.hid hrow; clear hrow
      obtain ⟨adr, capr, hur, hcells⟩ : ∃ (adr : Option Addr) (capr : Nat), u = .slice adr rows.length capr ∧ ∀ i, i < rows.length → ∃ g, adr = some ⟨g, 0, none⟩ ∧ g < w2.heap.size ∧ w2.cell? ⟨g, i, none⟩ = some (vs.getD i undef) := by
        rcases Own.of_row HROW.out.row with ⟨e, h0, _⟩ | ⟨g, cap', e, hg', _, _, ho⟩
        · exact ⟨none, 0, by rw [e, h0], fun i hi => by omega⟩
        · exact ⟨_, cap', e, fun i hi => ⟨g, rfl, ho.lt, ho.cell? (by rw [List.getD_eq_getElem?_getD, List.getElem?_eq_getElem (by rw [HROW.out.len]; exact hi)]; rfl)⟩⟩
      have HCELL := Lib.hid hcells; clear hcells
      subst hur
      go_wp2_with fail
      go_loopw [10, 32] (fun vo i wr => ∃ k : Nat, k ≤ rows.length ∧ i = .int .i64 k ∧ ∃ ws, ORow wr w.heap.size vo ((rows.take k).filter (lglB N (betF ls) (fd d))) ws ∧ (∀ i, i < ws.length → ∃ j, j < k ∧ ws.getD i undef = vs.getD j undef) ∧ (∀ q, vo.ownBlock = some q → w2.heap.size ≤ q) ∧ Below w2.heap.size w2 wr) (fun _ i _ => rows.length - (intOf i).toNat)
      case atStart => exact ⟨0, Nat.zero_le _, rfl, [], ORow.nil _ _, fun i hi => by simp at hi, fun q hq => by simp [Value.ownBlock] at hq, Below.refl _ _⟩
      case round =>
        obtain ⟨k, hk, rfl, ws, ho, hws, hub, hbel⟩ := hrel
        have HUB := Lib.hid hub; clear hub
        have HOR := Lib.hid ho; clear ho
        have HWS := Lib.hid hws; clear hws
        have hfl : ((rows.take k).filter (lglB N (betF ls) (fd d))).length ≤ 255 := Nat.le_trans (List.length_filter_le _ _) (by rw [List.length_take]; omega)
        obtain ⟨wo, rfl⟩ : ∃ wo : World, wo = wr := ⟨_, rfl⟩
        have hz2 := hb2.size
        have hz3 := hbel.size
        by_cases hlt : k < rows.length
        case neg =>
          have he : k = rows.length := by omega
          subst he
          go_wp2_with fail
          go_ret2
          have h1 := HOR.out.resR
          rw [List.take_length] at h1
          exact ⟨_, by rw [hR2.out]; rfl, by rw [hR2.out]; exact h1, hbw2.trans (hbel.mono (by omega))⟩
        case pos =>
          obtain ⟨gr, rfl, hgr, cr⟩ := HCELL.out k hlt
          have cr2 := bcell hbel hgr cr
          clear cr
          have hmemr : rows.getD k [] ∈ rows := by rw [List.getD_eq_getElem?_getD, List.getElem?_eq_getElem hlt]; exact List.getElem_mem hlt
          obtain ⟨hris, _⟩ := HOK.out _ hmemr
          have hne := HNE.out _ hmemr
          have hek := HROW.out.each k hlt
          have hstep := Lib.hid (take_filter rows (lglB N (betF ls) (fd d)) [] hlt)
          generalize hvk : vs.getD k undef = vk at cr2 hek
          have HVK := Lib.hid hvk; clear hvk
          generalize rows.getD k [] = s at hek hris hne hstep
          clear hmemr
          have HEK := Lib.hid hek
          obtain ⟨gs, cs, rfl, hgs, hos⟩ : ∃ gs cs, vk = .slice (some ⟨gs, 0, none⟩) s.length cs ∧ w1.heap.size ≤ gs ∧ Own w2 gs 3 (ints s) := by
            rcases hek with ⟨_, e⟩ | h
            · exact absurd e hne
            · exact h
          clear hek
          have hsl := hris.le
          have HRIS := Lib.hid hris; clear hris
          have hosr := (hos.belowAll hbel).rd
          have HOS := Lib.hid hos; clear hos
          have hsb : ∀ j, j < s.length → 0 ≤ s.getD j 0 ∧ s.getD j 0 < N := fun j hj => HRIS.out.bound _ (by rw [List.getD_eq_getElem?_getD, List.getElem?_eq_getElem hj]; exact List.getElem_mem hj)
          have HSB := Lib.hid hsb; clear hsb
          have hset := chSet_any N ⟨gs, 0, none⟩ cs s wo (by omega) (by omega) hosr HSB.out
          have HSET := Lib.hid hset; clear hset hosr
          go_wp2_with fail
          refine HSET.out.mono ?_
          rintro e w3 ⟨gm, rfl, hgm, hom, hb3⟩
          have HOM := Lib.hid hom; clear hom
          have hbw3 : Below w.heap.size w w3 := ball (hbw2.trans (hbel.mono (by omega))) hb3
          have hfire := chFire_any (N : Int) adl capl ls a cap d ⟨gm, 0, none⟩ N (tab N (setF s)) w3 hl (hr.below hbw3) HG.out (by rw [HDN.out]; simp) (by rw [tab_length]; simp) (hr'.below hbw3) HOM.out.rd (fun j hj => by
            rw [Int.toNat_natCast] at hj
            have := HDA.out j hj
            omega) (fun u hu => setList_bounds N s u (by simpa using hu))
          rw [Int.toNat_natCast] at hfire
          have HFIRE := Lib.hid hfire; clear hfire
          go_wp2_with fail
          refine HFIRE.out.mono ?_
          rintro e w4 ⟨vv, rfl, hv4, hb4⟩
          obtain ⟨g4, cap4, rfl, hg4, ho4⟩ := hv4.shape (by rw [tab_length]; omega)
          rw [tab_length]
          clear hv4
          have HO4 := Lib.hid ho4; clear ho4
          have hb24 : Below w2.heap.size w2 w4 := ball (ball hbel hb3) hb4
          have hos4 := HOS.out.belowAll hb24
          have HOS4 := Lib.hid hos4; clear hos4
          go_wp2_with fail
          go_loop [14, 45] (fun b i => ∃ j : Nat, j ≤ s.length ∧ i = .int .i64 j ∧ b = .bool ((s.take j).all (lglP N (betF ls) (fd d) s))) (fun _ i => s.length - (intOf i).toNat)
          case atStart => exact ⟨0, Nat.zero_le _, rfl, rfl⟩
          case round =>
            obtain ⟨j, hj, rfl, rfl⟩ := hrel
            by_cases hlj : j < s.length
            case pos =>
              have hall := Lib.hid (show (s.take (j + 1)).all (lglP N (betF ls) (fd d) s) = ((s.take j).all (lglP N (betF ls) (fd d) s) && lglP N (betF ls) (fd d) s (s.getD j 0)) by rw [take_snoc s j 0 hlj, List.all_append]; simp)
              have cj := HOS4.out.cell? (i := j) (ints_get hlj)
              have hb0 := HSB.out j hlj
              have hmj : s.getD j 0 ∈ s := by rw [List.getD_eq_getElem?_getD, List.getElem?_eq_getElem hlj]; exact List.getElem_mem hlj
              generalize (s.take j).all (lglP N (betF ls) (fd d) s) = lb at hall ⊢
              generalize s.getD j 0 = y at cj hb0 hall hmj
              obtain ⟨Y, rfl⟩ : ∃ Y : Nat, y = Y := ⟨y.toNat, by omega⟩
              have ca := HO4.out.cell? (i := Y) (ints_get (by rw [tab_length]; omega))
              rw [tab_getD (by omega), show lapF ls = lapE (betF ls) (valF ls) from rfl, fire_out HGR.out (by omega) hmj] at ca
              have hlp : Hid (lglP N (betF ls) (fd d) s (Y : Int) = decide (0 ≤ d.getD Y 0 - outF (betF ls) (tab N (setF s)) Y N)) := by
                show _ = _
                unfold lglP fd
                rw [Int.toNat_natCast]
                exact decide_eq_decide.2 (by omega)
              generalize d.getD Y 0 - outF (betF ls) (tab N (setF s)) Y N = z at ca hlp
              clear hmj
              cases lb
              · go_wp2_with fail
                go_round
                case rel => exact ⟨j + 1, by omega, by go_num, by rw [hall.out]; rfl⟩
                case measure => simp [intOf]; omega
              · go_wp2_with fail
                go_round
                case rel => exact ⟨j + 1, by omega, by go_num, by rw [hall.out, hlp.out]; simp⟩
                case measure => simp [intOf]; omega
            case neg =>
              have hje : j = s.length := by omega
              subst hje
              have hlb := Lib.hid (show (s.take s.length).all (lglP N (betF ls) (fd d) s) = lglB N (betF ls) (fd d) s by rw [List.take_length]; rfl)
              have hbo4 : Below wo.heap.size wo w4 := ball hb3 hb4
              have HOR4 := Lib.hid (HOR.out.below hbo4)
              have HEK4 := Lib.hid ((HEK.out.below hb24).mono hz1)
              rw [hlb.out]
              cases hlg : lglB N (betF ls) (fd d) s
              · have hst2 := Lib.hid (show (rows.take (k + 1)).filter (lglB N (betF ls) (fd d)) = (rows.take k).filter (lglB N (betF ls) (fd d)) by rw [hstep.out, hlg]; simp)
                clear hlg hlb
                go_wp2_with fail
                go_roundw
                case rel => exact ⟨k + 1, by omega, by go_num, ws, by rw [hst2.out]; exact HOR4.out, fun i hi => by obtain ⟨j, h1, h2⟩ := HWS.out i hi; exact ⟨j, by omega, h2⟩, HUB.out, hb24⟩
                case measure => simp [intOf]; omega
              · have hst2 := Lib.hid (show (rows.take (k + 1)).filter (lglB N (betF ls) (fd d)) = (rows.take k).filter (lglB N (betF ls) (fd d)) ++ [s] by rw [hstep.out, hlg]; simp)
                clear hlg hlb
                have hwl := HOR.out.len
                generalize (rows.take k).filter (lglB N (betF ls) (fd d)) = rk at hst2 HOR4 hfl hwl
                have hz4 := hb24.size
                go_wp2_with (at_builtin; refine wpList_append_lies _ rfl _ _ 27 rfl w.heap.size 30 i1 _ 1 24 Try.underlying27 hi1 hy0 hy1 hy2 rfl (by omega) u10 rk.length ws rfl (HOR4.out.row.alloc _) ⟨w4.heap.size, 0, none⟩ 1 1 [.slice (some ⟨gs, 0, none⟩) s.length cs] rfl rfl (World.news_of_block (cs := #[.slice (some ⟨gs, 0, none⟩) s.length cs]) (t := 30) (fr := (0, 0)) (heap_alloc_new _ _)) (by simp [Value.oneCell']) (by omega) (by unfold maxLen; omega) (by omega) (by simp; omega) (w4.heap.size + 1) (by simp) ?_; intro g5 cap5 w5 hown5 hgrow5 hat5 hlt5; have HAT := Lib.hid hat5; clear hat5)
                have hrow5 : ORow w5 w.heap.size (.slice (some ⟨g5, 0, none⟩) (rk.length + 1) cap5) (rk ++ [s]) (ws ++ [.slice (some ⟨gs, 0, none⟩) s.length cs]) :=
                  (HOR4.out.below ((Below.refl _ _).alloc (Nat.le_refl _) _)).app rfl (fun i hi => by
                    have : i = 0 := by simpa using hi
                    subst this
                    exact HEK4.out.below ((Below.refl _ _).alloc (Nat.le_refl _) _)) (fun i j hi hj hij => by simp at hi hj; omega) (fun i j hi hj q hq hq2 => by
                    have : j = 0 := by simpa using hj
                    subst this
                    obtain ⟨j', h1, h2⟩ := HWS.out i (by omega)
                    rw [h2] at hq
                    exact HROW.out.apart j' k (by omega) hlt (by omega) q hq (by rw [HVK.out]; exact hq2)) hown5 hgrow5
                have hb25 : Below w2.heap.size w2 w5 := (hb24.alloc hz4 _).grown hgrow5 (by simp; omega) HUB.out
                have hg5 : w2.heap.size ≤ g5 := by
                  rcases HAT.out with h | h
                  · exact HUB.out g5 h
                  · omega
                have HR5 := Lib.hid hrow5; clear hrow5 hown5 hgrow5
                go_roundw
                case rel =>
                  refine ⟨k + 1, by omega, by go_num, _, by rw [hst2.out]; exact HR5.out, fun i hi => ?_, fun q hq => ?_, hb25⟩
                  · rw [List.length_append, List.length_singleton] at hi
                    by_cases e : i < ws.length
                    · obtain ⟨j, h1, h2⟩ := HWS.out i e
                      exact ⟨j, by omega, by rw [getD_app_lt _ _ _ e]; exact h2⟩
                    · have e2 : i = ws.length := by omega
                      subst e2
                      exact ⟨k, by omega, by rw [getD_snoc_eq]; exact HVK.out.symm⟩
                  · simp only [Value.ownBlock, Option.some.injEq] at hq
                    omega
                case measure => simp [intOf]; omega

end Go.Proofs.Ytmhmdbmiimpbnaa
