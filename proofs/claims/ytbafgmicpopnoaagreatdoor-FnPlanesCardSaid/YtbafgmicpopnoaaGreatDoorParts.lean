/-
  Some texts of this proof in one: TxC SpW Parts. Each part tells what it proves. By an AI agent.
-/
import Derived.Test.YtbafgmicpopnoaaGreatDoorTxP
import Derived.Shelf.Strconv.AtoiAll
import Derived.Shelf.Strings.Split

/-
  The library's cutting, splitting and reading of numbers, for texts of any length. By an AI agent.
-/
namespace Go.Proofs.YtbafgmicpopnoaaGreatDoor
open Go.RowKit

theorem cut_G (R S : List UInt8) (w : World) (hs : R.length ≤ 1000000000) (hL : LaidL w) :
    Calls Tryz.prog 75 #[.string ⟨R.toArray⟩, .string ⟨S.toArray⟩] w fun e w' => e = .returned (.tuple #[.string ⟨(Lib.cut R S).1.toArray⟩, .string ⟨(Lib.cut R S).2.1.toArray⟩, .bool (Lib.cut R S).2.2]) ∧ Below w.heap.size w w' := by
  obtain ⟨m, hm⟩ := hL.m
  refine (Tryz.strings_Cut ⟨R.toArray⟩ ⟨S.toArray⟩ m w (by simp [ByteArray.size]; omega) hm).mono ?_
  rintro e w' ⟨rfl, n, rfl⟩
  exact ⟨rfl, bdrewN (Below.refl _ _) n⟩
/-- What Atoi gives at any text. -/
def AtoiW (l : List UInt8) (v : Value) : Prop := match atoiO l with
  | some n => v = .tuple #[.int .i64 n, .nilIface]
  | none => ∃ m tp p, v = .tuple #[.int .i64 m, .iface tp p]
theorem atoi_G (P : List UInt8) (w : World) (hs : P.length ≤ 1000000000) (hL : LaidL w) :
    Calls Tryz.prog 76 #[.string ⟨P.toArray⟩] w fun e w' => (∃ v, e = .returned v ∧ AtoiW P v) ∧ Below w.heap.size w w' := by
  have hsz : (⟨P.toArray⟩ : ByteArray).size ≤ 1000000000 := by simpa [ByteArray.size] using hs
  unfold AtoiW atoiO
  rcases h : Lib.atoiAll P with n | _ | _
  · refine (Tryz.strconv_Atoi_ok ⟨P.toArray⟩ (by omega) n (by simpa using h) w).mono ?_
    rintro e w' ⟨he, hw⟩
    refine ⟨⟨_, he, rfl⟩, ?_⟩
    rcases hw with rfl | ⟨t, rfl⟩
    · exact Below.refl _ _
    · exact Lib.bytesWorld_below _ _ _
  · obtain ⟨tp, p, hc⟩ := hL.s.syn
    refine (Any.strconv_Atoi_syntax Tryz.laysC172 ⟨P.toArray⟩ (by omega) (by simpa using h) _ w hc (Or.inr ⟨tp, p, rfl⟩)).mono ?_
    rintro e w' ⟨N, he, _, _, hb⟩
    exact ⟨⟨_, he, _, _, _, rfl⟩, hb⟩
  · obtain ⟨tp, p, hc⟩ := hL.s.rng
    refine (Any.strconv_Atoi_range Tryz.laysC172 ⟨P.toArray⟩ (by omega) (by simpa using h) _ w hc (Or.inr ⟨tp, p, rfl⟩)).mono ?_
    rintro e w' ⟨N, he, _, _, hb⟩
    exact ⟨⟨_, he, _, _, _, rfl⟩, hb⟩
theorem split_G (s : ByteArray) (c : UInt8) (w : World) (hs : s.size ≤ 1000000000) (hL : LaidL w) :
    Calls Tryz.prog 73 #[.string s, .string ⟨#[c]⟩] w fun e w' => ∃ D : List ByteArray, e = .returned (.slice (some ⟨w.heap.size, 0, none⟩) D.length D.length) ∧ w' = w.alloc (.cells (strs D).toArray 9) ∧ D.map (·.toList) = splitB c.toNat s.toList := by
  obtain ⟨m, hm⟩ := hL.m
  refine (Tryz.strings_Split s ⟨#[c]⟩ m w (by omega) hm (Nat.le_refl 1)).mono ?_
  rintro e w' ⟨rfl, rfl⟩
  have hlen := Lib.splitB_all ⟨#[c]⟩ (Nat.le_refl 1) 0 (Lib.countB s ⟨#[c]⟩) s rfl
  refine ⟨Lib.splitB ⟨#[c]⟩ 0 (Lib.countB s ⟨#[c]⟩) s, by rw [hlen], rfl, ?_⟩
  have h1 := Lib.splitB_data ⟨#[c]⟩ 0 (Lib.countB s ⟨#[c]⟩) s
  have h2 : Lib.countB s ⟨#[c]⟩ = s.data.toList.count c := by
    exact Lib.count_one c s.data.toList
  have h3 : (fun x : ByteArray => x.toList) = fun x => x.data.toList := by funext x; exact ByteArray.toList_eq _
  rw [h3, h1, ByteArray.toList_eq, ← splitK_eq c _ _ rfl, h2]
end Go.Proofs.YtbafgmicpopnoaaGreatDoor

/-
  The program's reading of numbers with separators between them, for separators of one byte. By an AI agent.
-/
namespace Go.Proofs.YtbafgmicpopnoaaGreatDoor
open Go.RowKit

def oneB (c : UInt8) : ByteArray := ⟨#[c]⟩
theorem oneB_ne (c : UInt8) : (oneB c).isEmpty = false := rfl
theorem strs_app (a b : List ByteArray) : strs a ++ strs b = strs (a ++ b) := by simp [strs]
theorem strs_get {xs : List ByteArray} {k : Nat} (hk : k < xs.length) : (strs xs)[k]? = some (.string (xs.getD k default)) := by
  unfold strs
  rw [List.getElem?_map, List.getElem?_eq_getElem hk, List.getD_eq_getElem?_getD, List.getElem?_eq_getElem hk]; rfl
theorem sep_at {sp : List UInt8} {k : Nat} (hk : k < sp.length) : (strs (sp.map oneB ++ [⟨#[]⟩]))[k]? = some (.string ⟨[sp.getD k 0].toArray⟩) := by
  rw [strs_get (by simp; omega), List.getD_eq_getElem?_getD, List.getElem?_append_left (by simp; omega), List.getElem?_map, List.getD_eq_getElem?_getD, List.getElem?_eq_getElem hk]
  rfl
theorem sep_end (sp : List UInt8) : (strs (sp.map oneB ++ [⟨#[]⟩]))[sp.length]? = some (.string ⟨#[]⟩) := by
  rw [strs_get (by simp), List.getD_eq_getElem?_getD, List.getElem?_append_right (by simp)]
  simp

set_option maxHeartbeats 6400000 in
set_option maxRecDepth 100000 in
theorem splitWhole_c (sp l : List UInt8) (g : Nat) (w : World) (hl : l.length ≤ 1000000) (h1 : 1 ≤ sp.length) (hsp : sp.length ≤ 100) (hg : Own w g 9 (strs (sp.map oneB))) (hL : LaidL w) :
    Calls Tryz.prog 50 #[.string ⟨l.toArray⟩, .slice (some ⟨g, 0, none⟩) sp.length sp.length] w fun e w' => (∃ v, e = .returned (.tuple #[v, .bool (swB sp l)]) ∧ (swB sp l = true → ∃ gi cap, v = .slice (some ⟨gi, 0, none⟩) (sp.length + 1) cap ∧ w.heap.size ≤ gi ∧ Own w' gi 3 (ints (tab (sp.length + 1) (swN sp l))))) ∧ Below w.heap.size w w' := by
  obtain ⟨iS, hiS, hzS, hsS, hbS⟩ := info_parts Tryz.infoS
  obtain ⟨i0, hi0, hz0, hz1, hz2⟩ := info_parts Tryz.infoI
  have HL := Lib.hid hL; clear hL
  have hbA : Below w.heap.size w (w.alloc (.cells #[] 3)) := (Below.refl _ _).alloc (Nat.le_refl _) _
  have cclone := Tryz.slices_Clone_string g 0 sp.length sp.length (sp.map oneB) (w.alloc (.cells #[] 3)) (by simp) (by omega) (fun j hj => by
    have h1 := Own.cell? (Own.alloc hg (.cells #[] 3)) (i := j) (v := .string ((sp.map oneB).getD j ByteArray.empty)) (by rw [strs_get hj]; rfl)
    simpa using h1)
  have htk : (sp.map oneB).take sp.length = sp.map oneB := List.take_of_length_le (by simp)
  rw [htk] at cclone
  clear htk
  have hv := rowE w 3
  have CCL := Lib.hid cclone; have HV := Lib.hid hv; have HG := Lib.hid hg; clear cclone hv hg
  have hcut : ∀ k, k < sp.length → ∀ w, LaidL w → Calls Tryz.prog 75 #[.string ⟨(swR sp l k).toArray⟩, .string ⟨[sp.getD k 0].toArray⟩] w fun e w' => e = .returned (.tuple #[.string ⟨(swP sp l k).toArray⟩, .string ⟨(swR sp l (k + 1)).toArray⟩, .bool (swS sp (swR sp l k) k).2.2]) ∧ Below w.heap.size w w' := fun k hk w hL => by
    have h := cut_G (swR sp l k) [sp.getD k 0] w (by have := swR_len sp l k; omega) hL
    have e : swS sp (swR sp l k) k = Lib.cut (swR sp l k) [sp.getD k 0] := by unfold swS; rw [if_pos hk]
    rw [← e] at h
    exact h
  have hlast : swS sp (swR sp l sp.length) sp.length = (swR sp l sp.length, [], true) := by unfold swS; rw [if_neg (by omega)]
  have hlastP : swP sp l sp.length = swR sp l sp.length := by unfold swP; rw [hlast]
  have hlastR : swR sp l (sp.length + 1) = [] := by rw [swR, hlast]
  have hato : ∀ k w, LaidL w → Calls Tryz.prog 76 #[.string ⟨(swP sp l k).toArray⟩] w fun e w' => (∃ v, e = .returned v ∧ AtoiW (swP sp l k) v) ∧ Below w.heap.size w w' := fun k w hL => atoi_G _ w (by have := swP_len sp l k; omega) hL
  have hsep : ∀ k, k < sp.length → (⟨[sp.getD k 0].toArray⟩ : ByteArray).toList.isEmpty = false := fun k _ => by rw [ByteArray.toList_eq]; rfl
  obtain ⟨N, hN⟩ : ∃ N, sp.length = N := ⟨_, rfl⟩
  have HSA := Lib.hid (fun k (hk : k < N) => sep_at (sp := sp) (k := k) (by omega))
  have HSE := Lib.hid (sep_end sp)
  have HBF := Lib.hid (fun k (hk : k ≤ N) => swB_f (sp := sp) (l := l) (k := k) (by omega))
  have HBT := Lib.hid (fun (h : ∀ k, k < N + 1 → swO sp l k = true) => swB_t (sp := sp) (l := l) (by rw [hN]; exact h))
  rw [hN] at CCL HSE hlast hlastP hlastR hcut h1 hsp ⊢
  have HCUT := Lib.hid hcut; have HATO := Lib.hid hato; have HSEP := Lib.hid (fun k (hk : k < N) => hsep k (by omega)); have HLS := Lib.hid (And.intro hlast (And.intro hlastP hlastR)); have HMN := Lib.hid (show (sp.map oneB).length = N by simpa using hN)
  clear hcut hato hsep hlast hlastP hlastR hN
  go_enter Tryz.func50, Tryz.ntmps50
  go_wp2_with fail
  refine CCL.out.mono ?_
  rintro e w1 ⟨v1, rfl, hrow, hnn, hw1⟩
  obtain ⟨gv, cv, rfl, hgv⟩ : ∃ gv cv, v1 = .slice (some ⟨gv, 0, none⟩) N cv ∧ w.heap.size + 1 ≤ gv := by
    rcases Own.of_row hrow with ⟨h, _⟩ | ⟨gv, cv, h, hgv, _⟩
    · exact absurd h hnn
    · exact ⟨gv, cv, h, by simpa using hgv⟩
  clear hnn
  have HO := Lib.hid hrow
  have hb1 := ball hbA hw1
  have hs1 := hb1.size
  have hv1 := Lib.hid (row_below (row_below HV.out hw1) ((Below.refl _ _).alloc (Nat.le_refl _) (.cells #[.string ⟨#[]⟩] 9)))
  have hs1' : w.heap.size + 1 ≤ w1.heap.size := by have := hw1.size; simpa using this
  clear hrow hw1
  go_wp2_with (at_builtin; refine wpList_append_lies _ rfl _ _ 64 rfl _ 9 iS _ 1 16 Tryz.underlying64 hiS hzS hsS hbS rfl (by omega) (.slice (some ⟨gv, 0, none⟩) N cv) N _ rfl (HO.out.alloc _) ⟨w1.heap.size, 0, none⟩ 1 1 [.string ⟨#[]⟩] rfl rfl (World.news_of_block (cs := #[.string ⟨#[]⟩]) (t := 9) (fr := (0, 0)) (heap_alloc_new _ _)) (by simp [Value.oneCell']) (by omega) (by unfold maxLen; omega) (by omega) (by have := hb1.size; simp; omega) (w1.heap.size + 1) (by simp) ?_; intro gs caps w2 hown hgrow hat hlts)
  have hb2 : Below w.heap.size w w2 := (hb1.alloc hs1 (.cells #[.string ⟨#[]⟩] 9)).grown hgrow (by simp; omega) (fun q e => by simp [Value.ownBlock] at e; omega)
  have hgs : w.heap.size + 1 ≤ gs := by
    rcases hat with h | h
    · simp [Value.ownBlock] at h; omega
    · omega
  have hv2 := hv1.out.kept hgrow (Or.inr (by simp [Value.ownBlock]; omega))
  have hsep : Own w2 gs 9 (strs (sp.map oneB ++ [⟨#[]⟩])) := by
    rcases Own.of_row hown with ⟨h, _⟩ | ⟨g2, c2, h, _, _, _, ho⟩
    · cases h
    · cases h; rw [← strs_app]; exact ho
  clear hat hown hgrow hv1 HV HO hgv hs1 hs1' hb1 hbA
  have HV2 := Lib.hid hv2; have HS2 := Lib.hid hsep; clear hv2 hsep
  go_loopw [0, 6, 20] (fun r v i wr => ∃ k : Nat, k ≤ N + 1 ∧ i = .int .i64 k ∧ r = .string ⟨(swR sp l k).toArray⟩ ∧ (wr.ownsRow w.heap.size 3 1 v k (ints (tab k (swN sp l))) ∧ v.ownBlock ≠ some gs) ∧ Own wr gs 9 (strs (sp.map oneB ++ [⟨#[]⟩])) ∧ (∀ j, j < k → swO sp l j = true) ∧ Below w.heap.size w wr) (fun _ _ i _ => N + 1 - (intOf i).toNat)
  case atStart => exact ⟨0, by omega, rfl, rfl, ⟨HV2.out, by simp [Value.ownBlock]; omega⟩, HS2.out, by omega, hb2⟩
  case round =>
    obtain ⟨k, hk, rfl, rfl, ⟨hown, hob⟩, hsep, hok, hbel⟩ := hrel
    clear HV2 HS2 hb2
    have hsz := hbel.size
    have wk : IntKind.i64.wrap ((k : Int) + 1) = (k : Int) + 1 := i64_small (by omega) (by omega)
    have wk' : IntKind.i64.wrap (((k + 1 : Nat) : Int)) = ((k + 1 : Nat) : Int) := i64_small (by omega) (by omega)
    by_cases hlt : k < N + 1
    case neg =>
      obtain rfl : k = N + 1 := by omega
      have hgood := Lib.hid (show swB sp l = true from HBT.out hok)
      have hv : ∃ gi cap, u6 = .slice (some ⟨gi, 0, none⟩) (N + 1) cap ∧ w.heap.size ≤ gi ∧ Own wr gi 3 (ints (tab (N + 1) (swN sp l))) := by
        rcases Own.of_row hown with ⟨_, h⟩ | ⟨g2, c2, h, hg2, _, _, ho⟩
        · exact absurd h (by first | omega | (intro e; have := congrArg List.length e; simp [ints, tab] at this))
        · exact ⟨g2, c2, h, hg2, ho⟩
      clear hok hown hob hsep
      obtain ⟨gi, cap, rfl, hgi, hrd⟩ := hv
      have HR := Lib.hid hrd; clear hrd
      have g1 : decide (((N + 1 : Nat) : Int) < ((N + 1 : Nat) : Int)) = false := decide_eq_false (by omega)
      have g2 : decide ((N : Int) + 1 < (N : Int) + 1) = false := decide_eq_false (by omega)
      go_wp2_with fail
      go_ret2
      exact ⟨⟨.slice (some ⟨gi, 0, none⟩) (N + 1) cap, by rw [hgood.out]; rfl, fun _ => ⟨gi, cap, rfl, hgi, HR.out⟩⟩, hbel⟩
    case pos =>
      have g1 : decide ((k : Int) < ((N + 1 : Nat) : Int)) = true := decide_eq_true (by omega)
      have g2 : decide ((k : Int) < (N : Int) + 1) = true := decide_eq_true (by omega)
      have HK := Lib.hid hok; have HO := Lib.hid hown; have HB := Lib.hid hob; have HS := Lib.hid hsep; clear hok hown hob hsep
      have hok0 := Lib.hid (show swO sp l k = false → swB sp l = false from HBF.out k (by omega))
      have hokd : swO sp l k = ((swS sp (swR sp l k) k).2.2 && (atoiO (swP sp l k)).isSome) := rfl
      have hnum : swN sp l k = (atoiO (swP sp l k)).getD 0 := rfl
      have ca := HATO.out k
      unfold AtoiW at ca
      obtain ⟨u, hu⟩ : ∃ u, atoiO (swP sp l k) = u := ⟨_, rfl⟩
      rw [hu] at ca hokd hnum
      clear hu
      have HN := Lib.hid hnum; clear hnum
      by_cases hkN : k < N
      case pos =>
        have hcell := HS.out.cell? (i := k) (HSA.out k hkN)
        have hse := HSEP.out k hkN
        have cc := HCUT.out k hkN
        obtain ⟨o, ho⟩ : ∃ o, (swS sp (swR sp l k) k).2.2 = o := ⟨_, rfl⟩
        rw [ho] at cc hokd
        clear ho
        obtain ⟨SS, hSS⟩ : ∃ P : ByteArray, (⟨[sp.getD k 0].toArray⟩ : ByteArray) = P := ⟨_, rfl⟩
        rw [hSS] at hcell hse cc
        clear hSS
        obtain ⟨P, hP⟩ : ∃ P : ByteArray, (⟨(swP sp l k).toArray⟩ : ByteArray) = P := ⟨_, rfl⟩
        rw [hP] at ca cc
        clear hP
        have CC := Lib.hid cc; clear cc
        cases u with
        | none =>
          have hbad := hok0.out (by rw [hokd]; simp)
          have HBAD := Lib.hid hbad; clear hbad
          have CA := Lib.hid ca; clear ca hokd
          cases o
          all_goals
            go_wp2_with fail
            refine (CC.out _ (HL.out.below hbel)).mono ?_
            rintro e w3 ⟨rfl, hw3⟩
            have hb3 := ball hbel hw3
            go_wp2_with fail
            refine (CA.out _ (HL.out.below hb3)).mono ?_
            rintro e w4 ⟨⟨v, rfl, m, tp, pp, rfl⟩, hw4⟩
            have hb4 := ball hb3 hw4
            go_wp2_with fail
            go_ret2
            exact ⟨⟨.slice none 0 0, by rw [HBAD.out]; rfl, fun h => absurd (HBAD.out.symm.trans h) (by simp)⟩, hb4⟩
        | some n =>
          cases o
          case false =>
            have hbad := hok0.out (by rw [hokd]; simp)
            have HBAD := Lib.hid hbad; clear hbad
            have CA := Lib.hid ca; clear ca hokd
            go_wp2_with fail
            refine (CC.out _ (HL.out.below hbel)).mono ?_
            rintro e w3 ⟨rfl, hw3⟩
            have hb3 := ball hbel hw3
            go_wp2_with fail
            refine (CA.out _ (HL.out.below hb3)).mono ?_
            rintro e w4 ⟨⟨v, rfl, rfl⟩, hw4⟩
            have hb4 := ball hb3 hw4
            go_wp2_with fail
            go_ret2
            exact ⟨⟨.slice none 0 0, by rw [HBAD.out]; rfl, fun h => absurd (HBAD.out.symm.trans h) (by simp)⟩, hb4⟩
          case true =>
            have hokk := Lib.hid (show swO sp l k = true by rw [hokd]; rfl)
            have CA := Lib.hid ca; clear ca hokd hok0
            go_wp2_with fail
            refine (CC.out _ (HL.out.below hbel)).mono ?_
            rintro e w3 ⟨rfl, hw3⟩
            have hb3 := ball hbel hw3
            go_wp2_with fail
            refine (CA.out _ (HL.out.below hb3)).mono ?_
            rintro e w4 ⟨⟨v, rfl, rfl⟩, hw4⟩
            have hb4 := ball hb3 hw4
            have hs4 := hb4.size
            have HO4 := Lib.hid (row_below HO.out (ball hw3 hw4))
            have HS4 := Lib.hid (HS.out.belowAll (ball hw3 hw4))
            have hgs4 := HS4.out.lt
            go_wp2_with (at_builtin; refine wpList_append_lies _ rfl _ _ 57 rfl w.heap.size 3 i0 _ 1 8 Tryz.underlying57 hi0 hz0 hz1 hz2 rfl (by omega) _ k (ints (tab k (swN sp l))) rfl (HO4.out.alloc _) ⟨w4.heap.size, 0, none⟩ 1 1 [.int .i64 n] rfl rfl (World.news_of_block (cs := #[.int .i64 n]) (t := 3) (fr := (0, 0)) (heap_alloc_new _ _)) (by simp [Value.oneCell']) (by omega) (by unfold maxLen; omega) (by omega) (by simp; omega) (w4.heap.size + 1) (by simp) ?_; intro gg gcap w5 hown5 hgrow hat5 hlt5)
            have hb5 := appB hb4 hs4 HO4.out hgrow
            have HS5 := Lib.hid ((HS4.out.alloc (.cells #[.int .i64 n] 3)).grown hgrow HB.out)
            have hgg : gg ≠ gs := by
              rcases hat5 with h | h
              · intro he; subst he; exact HB.out h
              · omega
            go_roundw
            case rel =>
              refine ⟨k + 1, by omega, by go_num, rfl, ⟨rowC hown5 rfl (by rw [ints_one n, ints_append, tab_succ]; congr 2; rw [show n = swN sp l k from HN.out.symm]), by simp [Value.ownBlock]; exact hgg⟩, HS5.out, fun j hj => ?_, hb5⟩
              by_cases hjk : j = k
              · subst hjk; exact hokk.out
              · exact HK.out j (by omega)
            case measure => simp [intOf]; omega
      case neg =>
        obtain rfl : k = N := by omega
        have hcell := HS.out.cell? (i := k) HSE.out
        obtain ⟨h63, h64, h65⟩ := HLS.out
        rw [h63] at hokd
        rw [h64] at ca
        have H65 := Lib.hid h65
        clear h63 h64 h65 hkN
        cases u with
        | none =>
          have hbad := hok0.out (by rw [hokd]; simp)
          have HBAD := Lib.hid hbad; clear hbad
          have CA := Lib.hid ca; clear ca hokd
          go_wp2_with fail
          refine (CA.out _ (HL.out.below hbel)).mono ?_
          rintro e w4 ⟨⟨v, rfl, m, tp, pp, rfl⟩, hw4⟩
          have hb4 := ball hbel hw4
          go_wp2_with fail
          go_ret2
          exact ⟨⟨.slice none 0 0, by rw [HBAD.out]; rfl, fun h => absurd (HBAD.out.symm.trans h) (by simp)⟩, hb4⟩
        | some n =>
          have hokk := Lib.hid (show swO sp l k = true by rw [hokd]; rfl)
          have CA := Lib.hid ca; clear ca hokd hok0
          go_wp2_with fail
          refine (CA.out _ (HL.out.below hbel)).mono ?_
          rintro e w4 ⟨⟨v, rfl, rfl⟩, hw4⟩
          have hb4 := ball hbel hw4
          have hs4 := hb4.size
          have HO4 := Lib.hid (row_below HO.out hw4)
          have HS4 := Lib.hid (HS.out.belowAll hw4)
          have hgs4 := HS4.out.lt
          go_wp2_with (at_builtin; refine wpList_append_lies _ rfl _ _ 57 rfl w.heap.size 3 i0 _ 1 8 Tryz.underlying57 hi0 hz0 hz1 hz2 rfl (by omega) _ k (ints (tab k (swN sp l))) rfl (HO4.out.alloc _) ⟨w4.heap.size, 0, none⟩ 1 1 [.int .i64 n] rfl rfl (World.news_of_block (cs := #[.int .i64 n]) (t := 3) (fr := (0, 0)) (heap_alloc_new _ _)) (by simp [Value.oneCell']) (by omega) (by unfold maxLen; omega) (by omega) (by simp; omega) (w4.heap.size + 1) (by simp) ?_; intro gg gcap w5 hown5 hgrow hat5 hlt5)
          have hb5 := appB hb4 hs4 HO4.out hgrow
          have HS5 := Lib.hid ((HS4.out.alloc (.cells #[.int .i64 n] 3)).grown hgrow HB.out)
          have hgg : gg ≠ gs := by
            rcases hat5 with h | h
            · intro he; subst he; exact HB.out h
            · omega
          go_roundw
          case rel =>
            refine ⟨k + 1, by omega, by go_num, by rw [H65.out], ⟨rowC hown5 rfl (by rw [ints_one n, ints_append, tab_succ]; congr 2; rw [show n = swN sp l k from HN.out.symm]), by simp [Value.ownBlock]; exact hgg⟩, HS5.out, fun j hj => ?_, hb5⟩
            by_cases hjk : j = k
            · subst hjk; exact hokk.out
            · exact HK.out j (by omega)
          case measure => simp [intOf]

end Go.Proofs.YtbafgmicpopnoaaGreatDoor

/-
  The program's parts of a text, and its reading of numbers with one separator or two. By an AI agent.
-/
namespace Go.Proofs.YtbafgmicpopnoaaGreatDoor
open Go.RowKit

theorem splitB_ne (b : Nat) : ∀ l, splitB b l ≠ []
  | [] => by simp [splitB]
  | x :: l => by
    unfold splitB
    split
    · simp
    · split <;> simp
theorem splitB_len (b : Nat) : ∀ l, (splitB b l).length ≤ l.length + 1
  | [] => by simp [splitB]
  | x :: l => by
    have ih := splitB_len b l
    unfold splitB
    split
    · simp; omega
    · cases h : splitB b l with
      | nil => exact absurd h (splitB_ne b l)
      | cons p ps => rw [h] at ih; simp at ih ⊢; omega
theorem splitB_mem_len (b : Nat) : ∀ l, ∀ p ∈ splitB b l, p.length ≤ l.length
  | [], p, hp => by simp [splitB] at hp; simp [hp]
  | x :: l, p, hp => by
    have ih := splitB_mem_len b l
    unfold splitB at hp
    split at hp
    · rcases List.mem_cons.1 hp with h | h
      · simp [h]
      · have := ih p h; simp; omega
    · cases h : splitB b l with
      | nil => exact absurd h (splitB_ne b l)
      | cons q ps =>
        rw [h] at hp
        rcases List.mem_cons.1 hp with h1 | h1
        · have := ih q (by rw [h]; simp)
          subst h1; simp; omega
        · have := ih p (by rw [h]; simp [h1])
          simp; omega
theorem bytes_back (x : ByteArray) : (⟨x.toList.toArray⟩ : ByteArray) = x := by
  apply ByteArray.ext
  rw [ByteArray.toList_eq]
theorem emp_eq (l : List UInt8) : l.isEmpty = decide (l = []) := by cases l <;> simp

set_option maxHeartbeats 1600000 in
theorem parts_c (s : ByteArray) (w : World) (hs : s.size ≤ 1000000) (hL : LaidL w) :
    Calls Tryz.prog 49 #[.string s] w fun e w' => ∃ (D : List ByteArray) (cap : Nat), e = .returned (.tuple #[.slice (some ⟨w.heap.size, 0, none⟩) (D.length - 1) cap, .bool (decide ((splitB 59 s.toList).getLastD [] = []))]) ∧ Own w' w.heap.size 9 (strs D) ∧ D.map (·.toList) = splitB 59 s.toList ∧ D.length ≤ cap ∧ cap ≤ 1000001 ∧ Below w.heap.size w w' := by
  have cs := split_G s 59 w (by omega) hL
  rw [show (59 : UInt8).toNat = 59 from rfl] at cs
  clear hL
  have hlen := len_str s
  obtain ⟨l, hl⟩ : ∃ l, s.toList = l := ⟨_, rfl⟩
  rw [hl] at cs hlen ⊢
  have hne := splitB_ne 59 l
  have hsl : (splitB 59 l).length ≤ l.length + 1 := splitB_len 59 l
  obtain ⟨S, hS⟩ : ∃ S, splitB 59 l = S := ⟨_, rfl⟩
  rw [hS] at cs hne hsl ⊢
  have HNE := Lib.hid hne
  clear hne hS hl
  have CS := Lib.hid cs; clear cs
  go_enter Tryz.func49, Tryz.ntmps49
  go_wp2_with fail
  refine CS.out.mono ?_
  rintro e w1 ⟨D, rfl, rfl, hD⟩
  have hDl : D.length = S.length := by rw [← hD, List.length_map]
  have hDle : D.length ≤ 1000001 := by omega
  have hb : Below w.heap.size w (w.alloc (.cells (strs D).toArray 9)) := (Below.refl _ _).alloc (Nat.le_refl _) _
  have ho : Own (w.alloc (.cells (strs D).toArray 9)) w.heap.size 9 (strs D) := Own.newA w _ _ rfl
  obtain ⟨m, hm⟩ : ∃ m, D.length = m + 1 := ⟨D.length - 1, by have := HNE.out; have : S.length ≠ 0 := fun h => this (List.length_eq_zero_iff.1 h); omega⟩
  have hc := ho.cell? (i := m) (strs_get (by omega))
  have hlast : (S.getLastD []) = (D.getD m default).toList := by
    rw [← hD, List.getLastD_eq_getLast?, List.getLast?_eq_getElem?, List.length_map, hm, List.getElem?_map, List.getD_eq_getElem?_getD]
    simp only [Nat.add_sub_cancel]
    rw [List.getElem?_eq_getElem (by omega)]
    rfl
  obtain ⟨X, hX⟩ : ∃ X, D.getD m default = X := ⟨_, rfl⟩
  rw [hX] at hc hlast
  have hu : X.toList.isEmpty = decide (S.getLastD [] = []) := by rw [hlast, emp_eq]
  obtain ⟨u, hu2⟩ : ∃ u, decide (S.getLastD [] = []) = u := ⟨_, rfl⟩
  rw [hu2] at hu
  have HU := Lib.hid hu2
  have HO := Lib.hid ho; have HD := Lib.hid hD
  have HDL := Lib.hid hDle
  have HM := Lib.hid hm
  clear hX hlast hu2 ho hD hDl hDle hsl
  obtain ⟨q, hq⟩ : ∃ q, D.length = q := ⟨_, rfl⟩
  rw [hq] at hm
  have HQ := Lib.hid hq
  rw [hq]
  subst hm
  clear hq
  generalize w.alloc (.cells (strs D).toArray 9) = w1 at hb hc HO ⊢
  have n1 : (((m + 1 : Nat) : Int)) - 1 = (m : Int) := by omega
  have n2 : ((m : Int) + 1) - 1 = (m : Int) := by omega
  have hm6 : m ≤ 1000000 := by have := HDL.out; have := HQ.out; omega
  have p1 : IntKind.i64.wrap (m : Int) = (m : Int) := i64_small (by omega) (by omega)
  have p2 : m ≤ m + 1 := by omega
  have p3 : m < m + 1 := by omega
  go_wp2_with fail
  go_quiet (fail)
  go_wp2_with fail
  go_ret2
  exact ⟨D, m + 1, by rw [HU.out, HQ.out]; rfl, HO.out, HD.out, by have := HQ.out; omega, by have := HQ.out; omega, bdrewN hb _⟩

theorem split1_c (c : UInt8) (l : List UInt8) (g : Nat) (w : World) (hl : l.length ≤ 1000000) (hg : Own w g 9 [.string ⟨#[c]⟩]) (hL : LaidL w) :
    Calls Tryz.prog 50 #[.string ⟨l.toArray⟩, .slice (some ⟨g, 0, none⟩) 1 1] w fun e w' => (∃ v, e = .returned (.tuple #[v, .bool (swB [c] l)]) ∧ (swB [c] l = true → ∃ gi cap, v = .slice (some ⟨gi, 0, none⟩) 2 cap ∧ w.heap.size ≤ gi ∧ Own w' gi 3 [.int .i64 (swN [c] l 0), .int .i64 (swN [c] l 1)])) ∧ Below w.heap.size w w' :=
  splitWhole_c [c] l g w hl (Nat.le_refl 1) (by simp) hg hL
theorem split2_c (c d : UInt8) (l : List UInt8) (g : Nat) (w : World) (hl : l.length ≤ 1000000) (hg : Own w g 9 [.string ⟨#[c]⟩, .string ⟨#[d]⟩]) (hL : LaidL w) :
    Calls Tryz.prog 50 #[.string ⟨l.toArray⟩, .slice (some ⟨g, 0, none⟩) 2 2] w fun e w' => (∃ v, e = .returned (.tuple #[v, .bool (swB [c, d] l)]) ∧ (swB [c, d] l = true → ∃ gi cap, v = .slice (some ⟨gi, 0, none⟩) 3 cap ∧ w.heap.size ≤ gi ∧ Own w' gi 3 [.int .i64 (swN [c, d] l 0), .int .i64 (swN [c, d] l 1), .int .i64 (swN [c, d] l 2)])) ∧ Below w.heap.size w w' :=
  splitWhole_c [c, d] l g w hl (by simp) (by simp) hg hL
end Go.Proofs.YtbafgmicpopnoaaGreatDoor
