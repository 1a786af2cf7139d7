/-
  Reduced chips, plainly: the greatest at q; no two of them; what wins; legal sets.
-/
import Derived.Test.YtmhmdbmiimpbnaaRedR
import Derived.Test.YtmhmdbmiimpbnaaEqv
import Derived.Test.YtmhmdbmiimpbnaaSetL
import Derived.Test.YtmhmdbmiimpbnaaChipG
namespace Go.Proofs.Ytmhmdbmiimpbnaa

section
variable {N : Nat} {bet : Nat → Nat → Int} {val : Nat → Int}

theorem ap_rel (g : Gr N bet val) {j : Nat} (hj : j < N) (t : Nat → Int) : ap N bet val t j = sm N fun u => bet j u * (t j - t u) := by
  rw [ap_eq g hj, g.vs j hj, ← sm_mul, ← sm_sub]
  refine sm_congr fun u _ => ?_
  rw [g.sym u j, Int.mul_sub, Int.mul_comm (t j), Int.mul_comm (t u)]
theorem exists_max (t : Nat → Int) : ∀ k, 0 < k → ∃ v, v < k ∧ ∀ u, u < k → t u ≤ t v
  | 0, h => by omega
  | 1, _ => ⟨0, by omega, fun u hu => by rw [show u = 0 by omega]; exact Int.le_refl _⟩
  | k + 2, _ => by
    obtain ⟨v, hv, h⟩ := exists_max t (k + 1) (by omega)
    by_cases e : t v ≤ t (k + 1)
    · exact ⟨k + 1, by omega, fun u hu => by
        by_cases e2 : u = k + 1
        · rw [e2]; exact Int.le_refl _
        · exact Int.le_trans (h u (by omega)) e⟩
    · exact ⟨v, by omega, fun u hu => by
        by_cases e2 : u = k + 1
        · rw [e2]; omega
        · exact h u (by omega)⟩
theorem max_q (g : Gr N bet val) {c t : Nat → Int} {q : Nat} (hq : q < N) (hb : ∀ v, v < N → burnB N bet c q v = true) (hc : ∀ j, j < N → j ≠ q → 0 ≤ c j - ap N bet val t j) : ∀ v, v < N → t v ≤ t q := by
  obtain ⟨m, hm, hmax⟩ := exists_max t N (by omega)
  suffices h : t q = t m by intro v hv; rw [h]; exact hmax v hv
  refine Classical.byContradiction fun hne => ?_
  have hS := burnB_t.1 (hb m hm) (fun v => !decide (t v = t m)) (by simpa using hne) (fun v hv hlt => by
    by_cases e : t v = t m
    · exfalso
      have hvq : v ≠ q := fun h => hne (by rw [← h]; exact e)
      have h1 := hc v hv hvq
      rw [ap_rel g hv] at h1
      have h2 : sm N (fun u => if (!decide (t u = t m)) = true then bet v u else 0) ≤ sm N (fun u => bet v u * (t v - t u)) := sm_mono fun u hu => by
        have hu1 := hmax u hu
        have hn := g.nn v u
        by_cases e2 : t u = t m
        · rw [if_neg (by simp [e2]), e, e2]; simp
        · rw [if_pos (by simpa using e2)]
          have h4 : (1 : Int) ≤ t v - t u := by omega
          have := Int.mul_le_mul_of_nonneg_left h4 hn
          omega
      omega
    · simpa using e)
  simp at hS
theorem eff_q (g : Gr N bet val) {c t : Nat → Int} {q : Nat} (hq : q < N) (hb : ∀ v, v < N → burnB N bet c q v = true) (hc : ∀ j, j < N → j ≠ q → 0 ≤ c j - ap N bet val t j) : c q - ap N bet val t q ≤ c q := by
  have h := max_q g hq hb hc
  have : 0 ≤ ap N bet val t q := by
    rw [ap_rel g hq]
    exact sm_nonneg fun u hu => Int.mul_nonneg (g.nn q u) (by have := h u hu; omega)
  omega
theorem ap_neg (t : Nat → Int) (j : Nat) : ap N bet val (fun v => - t v) j = - ap N bet val t j := by
  have := ap_add (N := N) (bet := bet) (val := val) (fun v => - t v) t j
  rw [ap_congr (t := fun _ => 0) (fun v _ => by omega), ap_zero] at this
  omega
theorem ap_subS (s t : Nat → Int) (j : Nat) : ap N bet val (fun v => s v - t v) j = ap N bet val s j - ap N bet val t j := by
  have h1 := ap_add (N := N) (bet := bet) (val := val) s (fun v => - t v) j
  rw [ap_neg] at h1
  rw [← ap_congr (s := fun v => s v + - t v) (fun v _ => by omega)]
  omega
theorem red_uniq (g : Gr N bet val) {c c' t : Nat → Int} {q : Nat} (hq : q < N) (hb : ∀ v, v < N → burnB N bet c q v = true) (hb' : ∀ v, v < N → burnB N bet c' q v = true) (hc : ∀ j, j < N → j ≠ q → 0 ≤ c j) (hc' : ∀ j, j < N → j ≠ q → 0 ≤ c' j)
    (he : ∀ j, j < N → c' j = c j - ap N bet val t j) : ∀ j, j < N → c' j = c j := by
  have h1 := max_q g hq hb (fun j hj hjq => by rw [← he j hj]; exact hc' j hj hjq)
  have h2 := max_q (t := fun v => - t v) g hq hb' (fun j hj hjq => by rw [ap_neg, he j hj]; have := hc j hj hjq; omega)
  intro j hj
  rw [he j hj, ap_rel g hj, sm_congr (g := fun _ => (0 : Int)) (fun u hu => by
    have e1 : t u = t q := by have h3 := h1 u hu; have h4 := h2 u hu; omega
    have e2 : t j = t q := by have h3 := h1 j hj; have h4 := h2 j hj; omega
    rw [e1, e2]; simp), sm_zero]
  omega
theorem Run.eqv {q : Nat} {c s a b : Nat → Int} (h : Run N bet val q c s a b) : (∀ j, j < N → a j = c j - ap N bet val (fun v => b v - s v) j) ∧ (q < N → b q = s q) := by
  induction h with
  | stop c s _ => exact ⟨fun j _ => by rw [ap_congr (t := fun _ => 0) (fun v _ => by omega), ap_zero]; omega, fun _ => rfl⟩
  | step c s c1 s1 c' s' _ h1 h2 _ ih =>
    refine ⟨fun j hj => ?_, fun hq => ?_⟩
    · rw [ih.1 j hj, h1 j hj]
      have h3 := ap_add (N := N) (bet := bet) (val := val) (unb N bet c q) (fun v => s' v - s1 v) j
      rw [ap_congr (s := fun v => unb N bet c q v + (s' v - s1 v)) (t := fun v => s' v - s v) (fun v hv => by rw [h2 v hv]; omega)] at h3
      omega
    · rw [ih.2 hq, h2 q hq, unb_q]; omega
structure RedAll (N : Nat) (bet : Nat → Nat → Int) (val : Nat → Int) (q : Nat) (d a b : Nat → Int) : Prop where
  lo : ∀ j, j < N → j ≠ q → 0 ≤ a j ∧ a j ≤ 34
  burn : ∀ v, v < N → burnB N bet a q v = true
  sum : sm N a = sm N d
  bd : -1000 ≤ a q ∧ a q ≤ 1000
  eqv : ∀ j, j < N → a j = d j - ap N bet val b j
  q0 : b q = 0
theorem RedEnd.all {q : Nat} {d : Nat → Int} {r : List Int × List Int} (g : Gr N bet val) (hN : N ≤ 8) (hq : q < N) (h : RedEnd N bet val q d r) (hd : ∀ j, j < N → -40 ≤ d j ∧ d j ≤ 40) :
    ∃ a b, r = (tab N a, tab N b) ∧ RedAll N bet val q d a b := by
  have hp := h.props g hN hq hd
  obtain ⟨c1, s1, a, b, rfl, hb, hc, hr⟩ := h
  obtain ⟨a', b', he, h1, h2, h3, h4⟩ := hp
  have e : ∀ j, j < N → a' j = a j := fun j hj => by
    have h0 : (tab N a).getD j 0 = (tab N a').getD j 0 := congrArg (fun x : List Int × List Int => x.1.getD j 0) he
    rw [tab_getD hj, tab_getD hj] at h0
    exact h0.symm
  have hev := hr.eqv
  refine ⟨a, b, rfl, ⟨fun j hj hjq => by rw [← e j hj]; exact h1 j hj hjq, fun v hv => by rw [← burn_congr (c := a') e]; exact h2 v hv, by rw [← sm_congr e]; exact h3, by rw [← e q hq]; exact h4, fun j hj => ?_, ?_⟩⟩
  · rw [hev.1 j hj, hb.eq j hj]
    have h5 := ap_subS (N := N) (bet := bet) (val := val) b (fun v => - s1 v) j
    rw [ap_neg] at h5
    rw [h5]; omega
  · rw [hev.2 hq, hb.q0]; rfl
theorem RedAll.rel {q p : Nat} {d a b a' b' : Nat → Int} (h : RedAll N bet val q d a b) (h' : RedAll N bet val p d a' b') : ∀ j, j < N → a' j = a j - ap N bet val (fun v => b' v - b v) j := fun j hj => by
  rw [h.eqv j hj, h'.eqv j hj, ap_subS]; omega
theorem RedAll.win {q p : Nat} {d a b a' b' : Nat → Int} (g : Gr N bet val) (hp : p < N) (_hq : q < N) (h : RedAll N bet val q d a b) (h' : RedAll N bet val p d a' b') (hw : 0 ≤ a q) : 0 ≤ a' p := by
  have hr := h'.rel h
  have he : ∀ j, j < N → 0 ≤ a j := fun j hj => by
    by_cases e : j = q
    · rw [e]; exact hw
    · exact (h.lo j hj e).1
  have := eff_q g hp h'.burn (t := fun v => b v - b' v) (fun j hj _ => by rw [← hr j hj]; exact he j hj)
  rw [← hr p hp] at this
  have := he p hp
  omega
/-- What is lent at q wins. -/
theorem RedAll.lend {q : Nat} {d d' a b a' b' : Nat → Int} {k : Int} (g : Gr N bet val) (h0 : 0 < N) (_hq : q < N) (h : RedAll N bet val q d a b) (h' : RedAll N bet val 0 d' a' b') (hd : ∀ j, j < N → d' j = d j + if j = q then k else 0) (_hk : 0 ≤ k) (hw : 0 ≤ a q + k) : 0 ≤ a' 0 := by
  have hr : ∀ j, j < N → a j + (if j = q then k else 0) = a' j - ap N bet val (fun v => b v - b' v) j := fun j hj => by
    rw [h.eqv j hj, h'.eqv j hj, hd j hj, ap_subS]; omega
  have he : ∀ j, j < N → 0 ≤ a j + (if j = q then k else 0) := fun j hj => by
    by_cases e : j = q
    · rw [if_pos e, e]; exact hw
    · rw [if_neg e]; have := (h.lo j hj e).1; omega
  have := eff_q g h0 h'.burn (t := fun v => b v - b' v) (fun j hj _ => by rw [← hr j hj]; exact he j hj)
  rw [← hr 0 h0] at this
  have := he 0 h0
  omega
/-- A legal set never burns; what does not burn is legal. -/
theorem legal_burn (_g : Gr N bet val) {c : Nat → Int} {q : Nat} {p : Nat → Bool} (hp : p q = false) (hl : ∀ v, v < N → p v = true → outF bet (tab N (mk01 p)) v N ≤ c v) : ∀ v, v < N → burnB N bet c q v = true → p v = false := by
  intro v hv hb
  have := burnB_t.1 hb (fun u => !p u) (by simpa using hp) (fun u hu hlt => by
    by_cases e : p u = true
    · exfalso
      have h1 := hl u hu e
      have h2 : outF bet (tab N (mk01 p)) u N = sm N (fun x => if (!p x) = true then bet u x else 0) := by
        rw [outF_sm]
        refine sm_congr fun x hx => ?_
        rw [tab_getD hx]
        unfold mk01
        cases p x <;> simp
      omega
    · simpa using e)
  simpa using this
end

theorem sets_all (q : Nat) : ∀ (k v : Nat) (s t : List Int), t ≠ [] → Ris v (v + k : Nat) t → (∀ y ∈ t, y ≠ (q : Int)) → s ++ t ∈ sets q k v s
  | 0, v, s, t, hne, hr, _ => by
    have := hr.le
    cases t with
    | nil => exact absurd rfl hne
    | cons x t => simp at this; omega
  | k + 1, v, s, [], hne, _, _ => absurd rfl hne
  | k + 1, v, s, x :: t, _, hr, hq => by
    obtain ⟨h1, h2, h3⟩ := hr
    have hcast : (((v + 1 + k : Nat)) : Int) = ((v + (k + 1) : Nat) : Int) := by omega
    by_cases e : x = (v : Int)
    · subst e
      have hvq : v ≠ q := fun h => hq (v : Int) (by simp) (by rw [h])
      rw [sets_take hvq]
      refine List.mem_append_left _ ?_
      cases t with
      | nil => exact List.mem_cons_self
      | cons y t =>
        refine List.mem_cons_of_mem _ ?_
        have := sets_all q k (v + 1) (s ++ [(v : Int)]) (y :: t) (by simp) (by rw [hcast]; simpa using h3) (fun z hz => hq z (List.mem_cons_of_mem _ hz))
        simpa using this
    · have h4 : Ris ((v + 1 : Nat) : Int) ((v + 1 + k : Nat) : Int) (x :: t) := ⟨by omega, by omega, by rw [hcast]; exact h3⟩
      have := sets_all q k (v + 1) s (x :: t) (by simp) h4 hq
      by_cases e2 : v = q
      · rw [sets_skip e2]; exact this
      · rw [sets_take e2]; exact List.mem_append_right _ this
theorem setF_selF {N : Nat} {p : Nat → Bool} {u : Nat} (hu : u < N) : setF (selF N p) u = mk01 p u := by
  unfold setF mk01
  have : ((selF N p).contains (u : Int) = true) ↔ p u = true := by
    rw [List.contains_iff_mem, selF_mem]
    exact ⟨fun ⟨v, e, _, h⟩ => by rw [show u = v by omega]; exact h, fun h => ⟨u, rfl, hu, h⟩⟩
  by_cases e : p u = true
  · rw [if_pos (this.2 e), if_pos e]
  · rw [if_neg (fun h => e (this.1 h)), if_neg e]
/-- All burns if and only if there is no legal set without q. -/
theorem full_legal {N : Nat} {bet : Nat → Nat → Int} {val : Nat → Int} (g : Gr N bet val) {c : Nat → Int} {q : Nat} (_hq : q < N) : fullB N bet c q = true ↔ ((sets q N 0 []).filter (lglB N bet c)) = [] := by
  rw [fullB_t, List.filter_eq_nil_iff]
  constructor
  · intro hb s hs hl
    obtain ⟨hr, hsq⟩ := sets_ok q N N 0 [] (by omega) (by simp [Ris]) (by simp) s hs
    have hne := sets_ne (q := q) N 0 [] s hs
    have es : s = selF N (fun v => decide ((v : Int) ∈ s)) := selF_of hr fun v _ => by simp
    unfold lglB at hl
    rw [List.all_eq_true] at hl
    have h1 := legal_burn (c := c) (p := fun v => decide ((v : Int) ∈ s)) g (q := q) (by simpa using fun h => hsq _ h rfl) (fun v hv hp => by
      have := hl (v : Int) (by simpa using hp)
      unfold lglP at this
      rw [Int.toNat_natCast] at this
      rw [es, tab_congr (fun i hi => setF_selF (p := fun v => decide ((v : Int) ∈ s)) hi)] at this
      simpa using this)
    cases s with
    | nil => exact hne rfl
    | cons x t =>
      have hx := hr.bound x (by simp)
      have := h1 x.toNat (by omega) (hb _ (by omega))
      rw [show ((x.toNat : Nat) : Int) = x by omega] at this
      simp at this
  · intro h
    refine Classical.byContradiction fun hn => ?_
    have hex : ∃ v, v < N ∧ burnB N bet c q v = false := by
      refine Classical.byContradiction fun h2 => hn fun v hv => ?_
      cases e : burnB N bet c q v
      · exact absurd ⟨v, hv, e⟩ h2
      · rfl
    obtain ⟨v, hv, hbv⟩ := hex
    have hmem : selF N (fun u => !burnB N bet c q u) ∈ sets q N 0 [] := by
      have := sets_all q N 0 [] (selF N fun u => !burnB N bet c q u) (fun h3 => by
        have h4 : (v : Int) ∈ selF N (fun u => !burnB N bet c q u) := selF_mem.2 ⟨v, rfl, hv, by rw [hbv]; rfl⟩
        rw [h3] at h4; simp at h4) (by simpa using selF_ris (fun u => !burnB N bet c q u) N) (fun y hy e => by
        obtain ⟨u, rfl, _, hu⟩ := selF_mem.1 hy
        rw [show u = q by omega, burnB_q] at hu
        simp at hu)
      simpa using this
    refine h _ hmem ?_
    unfold lglB
    rw [List.all_eq_true]
    intro y hy
    obtain ⟨u, rfl, hu, hbu⟩ := selF_mem.1 hy
    unfold lglP
    rw [Int.toNat_natCast, tab_congr (fun i hi => setF_selF (p := fun u => !burnB N bet c q u) hi), decide_eq_true_eq, outF_sm]
    refine Classical.byContradiction fun h5 => ?_
    have h6 := burn_closed (c := c) (q := q) g.nn hu (by
      rw [sm_congr (g := fun x => if burnB N bet c q x = true then bet u x else 0) (fun x hx => by
        rw [tab_getD hx]; unfold mk01; cases hbx : burnB N bet c q x <;> simp [hbx])] at h5
      omega)
    rw [h6] at hbu
    simp at hbu

theorem red_all {n : Int} {ls : List Lk} {d : List Int} {q : Int} (h : askB n ls d q = true) : ∃ a b, redR n.toNat (betF ls) (valF ls) q.toNat (fd d) = (tab n.toNat a, tab n.toNat b) ∧ RedAll n.toNat (betF ls) (valF ls) q.toNat (fd d) a b := by
  obtain ⟨hgm, hq0, hq1⟩ := askB_t h
  obtain ⟨hg, hc, hdl, hda⟩ := gameB_t hgm
  obtain ⟨hn1, hn2⟩ := good_n hg
  obtain ⟨N, rfl⟩ : ∃ N : Nat, n = N := ⟨n.toNat, by omega⟩
  rw [Int.toNat_natCast]
  obtain ⟨f, hf⟩ := pot_exists (q := q.toNat) rfl hg hc (by omega)
  have hd := ask_bd (d := d) (N := N) (by omega) hda
  obtain ⟨r, hr⟩ := redEnd_exists (gr_of (N := N) rfl hg) (by omega) hf (fun j hj => (hd j hj).2)
  rw [hr.eq]
  exact hr.all (gr_of (N := N) rfl hg) (by omega) (by omega) hd
theorem ask_q {n : Int} {ls : List Lk} {d : List Int} {q : Int} (h : gameB n ls d = true) (h0 : 0 ≤ q) (h1 : q ≤ n - 1) : askB n ls d q = true := by unfold askB; rw [h, inB_t.2 ⟨h0, h1⟩]; rfl
theorem ask_gr {n : Int} {ls : List Lk} {d : List Int} {q : Int} (h : askB n ls d q = true) : Gr n.toNat (betF ls) (valF ls) ∧ 1 ≤ n ∧ n ≤ 8 ∧ 0 ≤ q ∧ q ≤ n - 1 ∧ d.length = n.toNat ∧ goodL n ls = true ∧ connB n ls = true ∧ gameB n ls d = true := by
  obtain ⟨hgm, hq0, hq1⟩ := askB_t h
  obtain ⟨hg, hc, hdl, hda⟩ := gameB_t hgm
  obtain ⟨hn1, hn2⟩ := good_n hg
  exact ⟨gr_of (by omega) hg, hn1, hn2, hq0, hq1, by omega, hg, hc, hgm⟩
/-- Nothing lacks if and only if the chips win. -/
theorem lack_win {n : Int} {ls : List Lk} {d : List Int} {q : Int} (h : askB n ls d q = true) : decide ((lackingR n ls d q).1 = 0) = winB n ls d ∧ 0 ≤ (lackingR n ls d q).1 ∧ (lackingR n ls d q).1 ≤ 1000 ∧ (lackingR n ls d q).2 = true := by
  obtain ⟨g, hn1, hn2, hq0, hq1, hl, hg, hc, hgm⟩ := ask_gr h
  obtain ⟨a, b, he, ha⟩ := red_all h
  obtain ⟨a', b', he', ha'⟩ := red_all (ask_q (q := 0) hgm (by omega) (by omega))
  have e1 : (lackingR n ls d q).1 = lackZ (a q.toNat) := by
    unfold lackingR; rw [if_pos h, he]; simp only; rw [tab_getD (by omega)]
  have e2 : winB n ls d = decide (0 ≤ a' 0) := by
    unfold winB; rw [show (0 : Int).toNat = 0 from rfl] at he'; rw [he']; simp only; rw [tab_getD (by omega)]
  have hb := ha.bd
  refine ⟨?_, ?_, ?_, by unfold lackingR; rw [if_pos h]⟩
  · rw [e1, e2]
    refine decide_eq_decide.2 ?_
    unfold lackZ
    constructor
    · intro h0
      refine ha.win g (show (0 : Nat) < _ by omega) (show q.toNat < _ by omega) ha' ?_
      split at h0 <;> omega
    · intro h0
      have := ha'.win g (show q.toNat < _ by omega) (show (0 : Nat) < _ by omega) ha h0
      split <;> omega
  · rw [e1]; unfold lackZ; split <;> omega
  · rw [e1]; unfold lackZ; split <;> omega
theorem lend_win {n : Int} {ls : List Lk} {d : List Int} {q : Nat} (h : askB n ls d q = true) (h' : askB n ls (d.set q (d.getD q 0 + (lackingR n ls d q).1)) 0 = true) : winB n ls (d.set q (d.getD q 0 + (lackingR n ls d q).1)) = true := by
  obtain ⟨g, hn1, hn2, hq0, hq1, hl, hg, hc, hgm⟩ := ask_gr h
  obtain ⟨a, b, he, ha⟩ := red_all h
  obtain ⟨a', b', he', ha'⟩ := red_all h'
  have e1 : (lackingR n ls d q).1 = lackZ (a q) := by
    unfold lackingR; rw [if_pos h, he]; simp only; rw [tab_getD (by omega), Int.toNat_natCast]
  have hlk := (lack_win h).2.1
  unfold winB
  rw [show (0 : Int).toNat = 0 from rfl] at he'
  rw [he']
  simp only
  rw [tab_getD (by omega), decide_eq_true_eq]
  refine RedAll.lend (k := (lackingR n ls d q).1) g (by omega) (show q < _ by omega) (by simpa using ha) ha' (fun j hj => ?_) hlk (by rw [e1]; unfold lackZ; split <;> omega)
  unfold fd
  by_cases e : j = q
  · subst e; rw [if_pos rfl, List.getD_eq_getElem?_getD, List.getElem?_set_self (by omega)]; rfl
  · rw [if_neg e, List.getD_eq_getElem?_getD, List.getElem?_set_ne (fun h => e h.symm), ← List.getD_eq_getElem?_getD]; omega
theorem won_nn {n : Int} {ls : List Lk} {d : List Int} : ∀ x ∈ (wonR n ls d).1, (0 : Int) ≤ x := by
  unfold wonR
  split
  · rename_i h
    obtain ⟨g, hn1, hn2, hq0, hq1, hl, hg, hc, hgm⟩ := ask_gr h.1
    obtain ⟨a, b, he, ha⟩ := red_all h.1
    rw [show (0 : Int).toNat = 0 from rfl] at he ha
    have hw := h.2
    unfold winB at hw
    rw [he] at hw ⊢
    simp only at hw ⊢
    rw [tab_getD (by omega), decide_eq_true_eq] at hw
    intro x hx
    obtain ⟨j, hj, rfl⟩ := List.mem_map.1 hx
    rw [List.mem_range] at hj
    by_cases e : j = 0
    · rw [e]; exact hw
    · exact (ha.lo j hj e).1
  · intro x hx; simp at hx
theorem eqv_win {n : Int} {ls : List Lk} {x y : List Int} (h : (equivR n ls x y).1 = true) : (equivR n ls x y).2 = true ∧ askB n ls x 0 = true ∧ askB n ls y 0 = true ∧ winB n ls x = winB n ls y ∧ isum x = isum y := by
  unfold equivR at h ⊢
  split at h
  · rename_i hk
    rw [if_pos hk]
    obtain ⟨g, hn1, hn2, hq0, hq1, hl, hg, hc, hgm⟩ := ask_gr hk.1
    obtain ⟨_, _, _, _, _, hl2, _⟩ := ask_gr hk.2
    obtain ⟨a, b, he, ha⟩ := red_all hk.1
    obtain ⟨a', b', he', ha'⟩ := red_all hk.2
    rw [show (0 : Int).toNat = 0 from rfl] at he ha he' ha'
    simp only [decide_eq_true_eq] at h
    refine ⟨rfl, hk.1, hk.2, by unfold winB; rw [h], ?_⟩
    rw [he, he'] at h
    simp only at h
    rw [isum_sm, isum_sm, hl, hl2, ← ha.sum, ← ha'.sum]
    exact sm_congr fun j hj => by
      have h0 := congrArg (fun l : List Int => l.getD j 0) h
      rwa [tab_getD hj, tab_getD hj] at h0
  · simp at h

/-! ### FnReduced -/
theorem red_fire {n : Int} {ls : List Lk} {d : List Int} {q : Int} (h : askB n ls d q = true) : resF n ls d (reducingScriptR n ls d q).1 = (reduceChipsR n ls d q).1 := by
  obtain ⟨a, b, he, ha⟩ := red_all h
  unfold reducingScriptR reduceChipsR resF
  rw [if_pos h, if_pos h, he]
  simp only
  refine tab_congr fun j hj => ?_
  rw [ha.eqv j hj, accF_sm]
  unfold ap fd
  rw [sm_congr (fun u hu => by rw [tab_getD hu])]
  rfl
theorem red_is {n : Int} {ls : List Lk} {d : List Int} {q : Int} (h : askB n ls d q = true) (h2 : (reducedR n ls (reduceChipsR n ls d q).1 q).2 = true) : (reducedR n ls (reduceChipsR n ls d q).1 q).1 = true := by
  obtain ⟨a, b, he, ha⟩ := red_all h
  unfold reducedR at h2 ⊢
  split at h2
  · rename_i hk
    rw [if_pos hk]
    unfold reduceChipsR
    rw [if_pos h, he]
    simp only [Bool.and_eq_true, Bool.not_eq_true']
    rw [owesB_congr (c' := a) (fun j hj => fd_tab hj), owesB_f, fullB_t]
    exact ⟨fun v hv hvq => (ha.lo v hv hvq).1, fun v hv => by rw [burn_congr (c' := a) (fun j hj => fd_tab hj)]; exact ha.burn v hv⟩
  · simp at h2
theorem red_same {n : Int} {ls : List Lk} {d : List Int} {q : Int} (h : askB n ls d q = true) (h2 : (equivR n ls d (reduceChipsR n ls d q).1).2 = true) : (equivR n ls d (reduceChipsR n ls d q).1).1 = true := by
  obtain ⟨g, hn1, hn2, hq0, hq1, hl, hg, hc, hgm⟩ := ask_gr h
  unfold equivR at h2 ⊢
  split at h2
  · rename_i hk
    rw [if_pos hk]
    obtain ⟨a, b, he, ha⟩ := red_all h
    obtain ⟨a1, b1, he1, ha1⟩ := red_all hk.1
    obtain ⟨a2, b2, he2, ha2⟩ := red_all hk.2
    rw [show (0 : Int).toNat = 0 from rfl] at he1 ha1 he2 ha2
    rw [he1, he2]
    simp only [decide_eq_true_eq]
    refine tab_congr fun j hj => ?_
    have e3 : ∀ i, i < n.toNat → fd (reduceChipsR n ls d q).1 i = a i := fun i hi => by
      unfold reduceChipsR; rw [if_pos h, he]; exact fd_tab hi
    refine red_uniq (t := fun v => b1 v - (b v + b2 v)) g (show 0 < n.toNat by omega) ha2.burn ha1.burn (fun j hj hj0 => (ha2.lo j hj hj0).1) (fun j hj hj0 => (ha1.lo j hj hj0).1) (fun i hi => ?_) j hj
    rw [ha1.eqv i hi, ha2.eqv i hi, e3 i hi, ha.eqv i hi, ap_subS, ap_add]
    omega
  · simp at h2
theorem red_more {n : Int} {ls : List Lk} {d : List Int} {q : Int} (h : askB n ls d q = true) : isum (reduceChipsR n ls d q).1 = isum d ∧ (reducingScriptR n ls d q).1.getD q.toNat 0 = 0 ∧ (∀ v, v < n.toNat → v ≠ q.toNat → 0 ≤ (reduceChipsR n ls d q).1.getD v 0) ∧ (reduceChipsR n ls d q).1.length = n.toNat ∧ (reducingScriptR n ls d q).1.length = n.toNat := by
  obtain ⟨g, hn1, hn2, hq0, hq1, hl, hg, hc, hgm⟩ := ask_gr h
  obtain ⟨a, b, he, ha⟩ := red_all h
  unfold reduceChipsR reducingScriptR
  rw [if_pos h, if_pos h, he]
  refine ⟨?_, ?_, ?_, tab_length _ _, tab_length _ _⟩
  · rw [isum_sm, isum_sm, hl, ← ha.sum]
    simp only
    rw [tab_length]
    exact sm_congr fun j hj => fd_tab hj
  · simp only; rw [tab_getD (by omega)]; exact ha.q0
  · intro v hv hvq; simp only; rw [tab_getD hv]; exact (ha.lo v hv hvq).1

end Go.Proofs.Ytmhmdbmiimpbnaa
