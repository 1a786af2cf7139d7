/-
  The program's LegalSets.
-/
import Derived.Test.YtmhmdbmiimpbnaaSetN
import Derived.Laws.EntriesVeiled
namespace Go.Proofs.Ytmhmdbmiimpbnaa
open Go.RowKit

theorem legalSetsR_small (n : Int) (ls : List Lk) (d : List Int) (q : Int) : smallR (legalSetsR n ls d q).1 := by
  unfold legalSetsR
  split
  · rename_i h
    obtain ⟨hn1, hn2⟩ := good_n (gameB_t (askB_t h.1).1).1
    obtain ⟨N, rfl⟩ : ∃ N : Nat, n = N := ⟨n.toNat, by omega⟩
    rw [Int.toNat_natCast]
    have h1 := sets_len q.toNat N 0 []
    have h2 : 2 ^ N ≤ 256 := Nat.le_trans (Nat.pow_le_pow_right (by omega) (show N ≤ 8 by omega)) (by decide)
    have h3 := List.length_filter_le (lglB N (betF ls) (fd d)) (sets q.toNat N 0 [])
    refine ⟨by show (List.filter _ _).length ≤ _; omega, fun i hi => ?_⟩
    have hm : ((sets q.toNat N 0 []).filter (lglB N (betF ls) (fd d))).getD i [] ∈ (sets q.toNat N 0 []).filter (lglB N (betF ls) (fd d)) := by
      rw [List.getD_eq_getElem?_getD, List.getElem?_eq_getElem hi]; exact List.getElem_mem hi
    have := (sets_ok q.toNat N N 0 [] (by omega) (by simp [Ris]) (by simp) _ (List.mem_filter.1 hm).1).1.le
    show (((sets q.toNat N 0 []).filter (lglB N (betF ls) (fd d))).getD i []).length ≤ _
    omega
  · exact ⟨by simp, fun i hi => by simp at hi⟩

set_option maxHeartbeats 3200000 in
set_option maxRecDepth 100000 in
theorem implSets_c (n : Int) (adl : Option Addr) (capl : Nat) (ls : List Lk) (a : Addr) (cap : Nat) (d : List Int) (q : Int) (w : World) (hl : ls.length ≤ 1048576) (hr : RdL w adl ls) (hl' : d.length ≤ 1048576) (hr' : RdI w (some a) d) :
    Calls Try.prog 50 #[.int .i64 n, .slice adl ls.length capl, .slice (some a) d.length cap, .int .i64 q] w (RetRB (legalSetsR n ls d q) w) := by
  have hmf : ∀ (fn : Fn) (first cap : Array Value) (w : World), (Instr.makeFunc fn first cap).run Try.prog w = .ok (.func fn first cap) w := fun _ _ _ _ => rfl
  have hcf := fun (xa : Array Value) (w : World) => callFunc_plain (P := Try.prog) Try.func100 (by kernel_rfl) (by kernel_rfl) xa w
  have hb0 : Below w.heap.size w (((w.alloc (.cells #[.int .i64 n] 3)).alloc (.cells #[.slice (some a) d.length cap] 30)).alloc (.cells #[.int .i64 q] 3)) := (((Below.refl _ _).alloc (Nat.le_refl _) _).alloc (by simp) _).alloc (by simp; omega) _
  have o1 := ((Own.newA w #[.int .i64 n] 3 (cs := [.int .i64 n]) rfl).alloc (.cells #[.slice (some a) d.length cap] 30)).alloc (.cells #[.int .i64 q] 3)
  have o2 := (Own.newA (w.alloc (.cells #[.int .i64 n] 3)) #[.slice (some a) d.length cap] 30 (cs := [.slice (some a) d.length cap]) rfl).alloc (.cells #[.int .i64 q] 3)
  have o3 := Own.newA ((w.alloc (.cells #[.int .i64 n] 3)).alloc (.cells #[.slice (some a) d.length cap] 30)) #[.int .i64 q] 3 (cs := [.int .i64 q]) rfl
  simp only [World.size_alloc] at o2 o3
  have hsz0 : (((w.alloc (.cells #[.int .i64 n] 3)).alloc (.cells #[.slice (some a) d.length cap] 30)).alloc (.cells #[.int .i64 q] 3)).heap.size = w.heap.size + 3 := by simp
  have k1 := o1.cell? (i := 0) rfl
  have k2 := o2.cell? (i := 0) rfl
  have k3 := o3.cell? (i := 0) rfl
  by_cases hg : goodL n ls = true
  case neg =>
    have hg' := Bool.eq_false_iff.2 hg
    have hR := Lib.hid (show legalSetsR n ls d q = ([], false) from if_neg (fun h => hg (gameB_t (askB_t h.1).1).1))
    go_enter Try.func50, Try.ntmps50
    go_wp2_with fail
    refine (gameAt_no n adl capl ls _ _ _ hl (hr.below hb0) hg').mono ?_
    rintro e w1 ⟨rfl, hb1⟩
    have hb01 := ball hb0 hb1
    clear o1 o2 o3 k1 k2 k3 hb0 hsz0 hb1
    go_wp2_with fail
    go_ret2
    exact RetRB.no hR.out (hb01.alloc hb01.size _)
  case pos =>
    have HG := Lib.hid hg
    have hR1 := hr.below hb0
    have hR2 := hr'.below hb0
    by_cases hk : askB n ls d q = true
    case neg =>
      have hk' := Bool.eq_false_iff.2 hk
      have hR := Lib.hid (show legalSetsR n ls d q = ([], false) from if_neg (fun h => hk h.1))
      have HR1 := Lib.hid hR1; clear hR1
      have HR2 := Lib.hid hR2; clear hR2
      clear hk
      go_enter Try.func50, Try.ntmps50
      go_wp2_with fail
      refine (gameAt_any n adl capl ls (some a) cap d q _ hl HR1.out hl' HR2.out HG.out).mono ?_
      rw [hk']
      rintro e w1 ⟨G, gb, gv, capb, rb, rfl, hG, hGB, hGV, hb1⟩
      have hb01 := ball hb0 hb1
      clear o1 o2 o3 k1 k2 k3 hb0 hsz0 hb1 hG
      go_wp2_with fail
      go_ret2
      exact RetRB.no hR.out (hb01.alloc hb01.size _)
    case pos =>
      obtain ⟨hgm, hq0, hq1⟩ := askB_t hk
      obtain ⟨_, hc, hdl, hda⟩ := gameB_t hgm
      obtain ⟨hn1, hn2⟩ := good_n hg
      obtain ⟨N, rfl⟩ : ∃ N : Nat, n = N := ⟨n.toNat, by omega⟩
      obtain ⟨q, rfl⟩ : ∃ k : Nat, q = k := ⟨q.toNat, by omega⟩
      have hdN : d.length = N := by omega
      have hasked := fun w => gameAt_any N adl capl ls (some a) cap d q w hl
      rw [hk] at hasked
      rw [hdN] at hasked k2 o2 hb0 o1 o3 k1 k3 hR1 hR2 hsz0 hl' ⊢
      have HA := Lib.hid hasked; clear hasked
      have how := fun w => hasDebt_any N q (some a) cap d w (by omega) hdN
      have hR := Lib.hid (show legalSetsR N ls d q = if owesB N q (fd d) = false then ((sets q N 0 []).filter (lglB N (betF ls) (fd d)), true) else ([], false) by unfold legalSetsR; rw [hk]; simp)
      have hnd : owesB N q (fd d) = false → ∀ v, v < N → v ≠ q → 0 ≤ fd d v := owesB_f.1
      generalize owesB N q (fd d) = ow at how hR hnd
      have HOW := Lib.hid how; clear how
      have HND := Lib.hid hnd; clear hnd
      have HDN := Lib.hid hdN
      have HR1 := Lib.hid hR1; clear hR1
      have HR2 := Lib.hid hR2; clear hR2
      have O1 := Lib.hid o1; clear o1
      have O2 := Lib.hid o2; clear o2
      have O3 := Lib.hid o3; clear o3
      have hgr := Lib.hid (gr_of (N := N) rfl hg)
      clear hda hgm hk hc hg hdl hdN hr hr'
      cases ow
      case true =>
        go_enter Try.func50, Try.ntmps50
        go_wp2_with fail
        refine (HA.out _ HR1.out hl' HR2.out HG.out).mono ?_
        rintro e w1 ⟨G, gb, gv, capb, rb, rfl, hG, hGB, hGV, hb1⟩
        have hb01 := ball hb0 hb1
        have hbA := (Below.refl w1.heap.size w1).alloc (Nat.le_refl _) (.cells #[.pointer (some ⟨G, 0, none⟩)] 59)
        have hb02 := ball hb01 hbA
        have hb12 := ball hb1 hbA
        have k2' := (O2.out.belowAll hb12).cell? (i := 0) rfl
        have k3' := (O3.out.belowAll hb12).cell? (i := 0) rfl
        have hrd := HR2.out.below hb12
        have hdebt := Lib.hid (HOW.out _ hrd)
        clear k1 k2 k3 hb0 hsz0 hG hrd hbA hb1
        go_wp2_with fail
        refine hdebt.out.mono ?_
        rintro e w' ⟨rfl, rfl⟩
        go_wp2_with fail
        go_ret2
        exact RetRB.no (hR.out.trans (if_neg (by simp))) hb02
      case false =>
        have hFE : Hid (Value.func (Fn.func 100) #[] #[.pointer (some ⟨w.heap.size, 0, none⟩)] = .func (Fn.func 100) #[] #[.pointer (some ⟨w.heap.size, 0, none⟩)]) := Lib.hid rfl
        have hsl := sets_len q N 0 []
        have h2k : 2 ^ N ≤ 256 := Nat.le_trans (Nat.pow_le_pow_right (by omega) (show N ≤ 8 by omega)) (by decide)
        have hslN : (sets q N 0 []).length ≤ 255 := by omega
        clear hsl h2k hFE
        go_enter Try.func50, Try.ntmps50
        go_wp2_with fail
        refine (HA.out _ HR1.out hl' HR2.out HG.out).mono ?_
        rintro e w1 ⟨G, gb, gv, capb, rb, rfl, hG, hGB, hGV, hb1⟩
        rw [Int.toNat_natCast] at hG
        have HGR := Lib.hid hG; clear hG
        have hb01 := ball hb0 hb1
        have hbA := (Below.refl w1.heap.size w1).alloc (Nat.le_refl _) (.cells #[.pointer (some ⟨G, 0, none⟩)] 59)
        have hb02 := ball hb01 hbA
        have hb12 := ball hb1 hbA
        have k2' := (O2.out.belowAll hb12).cell? (i := 0) rfl
        have k3' := (O3.out.belowAll hb12).cell? (i := 0) rfl
        have hrd := HR2.out.below hb12
        have hdebt := Lib.hid (HOW.out _ hrd)
        have o4 := Own.newA w1 #[.pointer (some ⟨G, 0, none⟩)] 59 (cs := [.pointer (some ⟨G, 0, none⟩)]) rfl
        have hsz1 := hb01.size
        clear k1 k2 k3 hb0 hsz0 hrd hb1
        go_wp2_with fail
        refine hdebt.out.mono ?_
        rintro e w' ⟨rfl, rfl⟩
        clear k2' k3'
        go_wp2_with fail
        have F1 : Value := .func (Fn.func 100) #[] #[.pointer (some ⟨w.heap.size, 0, none⟩), .pointer (some ⟨w.heap.size + 1 + 1, 0, none⟩), .pointer (some ⟨w1.heap.size, 0, none⟩), .pointer (some ⟨w.heap.size + 1, 0, none⟩), .pointer (some ⟨w1.heap.size + 1 + 1, 0, none⟩), .pointer (some ⟨w1.heap.size + 1 + 1 + 1, 0, none⟩)]
        clear F1
        have hW1 : ∀ (o1 o2 o3 : Obj), Below (w1.alloc (.cells #[.pointer (some ⟨G, 0, none⟩)] 59)).heap.size (w1.alloc (.cells #[.pointer (some ⟨G, 0, none⟩)] 59)) ((((w1.alloc (.cells #[.pointer (some ⟨G, 0, none⟩)] 59)).alloc o1).alloc o2).alloc o3) := fun o1 o2 o3 => (((Below.refl _ _).alloc (Nat.le_refl _) _).alloc (by simp) _).alloc (by simp) _
        have hnx := next_any (w1.alloc (.cells #[.pointer (some ⟨G, 0, none⟩)] 59)) w.heap.size (w.heap.size + 1 + 1) w1.heap.size (w.heap.size + 1) (w1.heap.size + 1 + 1) (w1.heap.size + 1 + 1 + 1) G gb gv capb rb N q ls a cap d (HGR.out.below hbA) hgr.out (by omega) HDN.out (HR2.out.below hb12) (HND.out trivial) (O1.out.belowAll hb12) (O3.out.belowAll hb12) o4 (O2.out.belowAll hb12) (by simp) N 0 [] (.slice none 0 0)
        have HNX := Lib.hid hnx; clear hnx
        refine (HNX.out _ [] (.slice (some ⟨w1.heap.size + 1, 0, none⟩) 0 0) [] (by omega) (by simp) (by simp [Ris]) (by simp) (Or.inl ⟨rfl, rfl⟩) ⟨?_, ?_, ?_⟩ (hW1 _ _ _) (by simpa using hslN)).mono ?_
        · have := (Own.newA ((w1.alloc (.cells #[.pointer (some ⟨G, 0, none⟩)] 59)).alloc (.cells #[] 30)) #[.slice (some ⟨w1.heap.size + 1, 0, none⟩) 0 0] 27 (cs := [.slice (some ⟨w1.heap.size + 1, 0, none⟩) 0 0]) rfl)
          simp only [World.size_alloc] at this
          exact this.alloc _
        · have := Own.newA (((w1.alloc (.cells #[.pointer (some ⟨G, 0, none⟩)] 59)).alloc (.cells #[] 30)).alloc (.cells #[.slice (some ⟨w1.heap.size + 1, 0, none⟩) 0 0] 27)) #[.func (Fn.func 100) #[] #[.pointer (some ⟨w.heap.size, 0, none⟩), .pointer (some ⟨w.heap.size + 1 + 1, 0, none⟩), .pointer (some ⟨w1.heap.size, 0, none⟩), .pointer (some ⟨w.heap.size + 1, 0, none⟩), .pointer (some ⟨w1.heap.size + 1 + 1, 0, none⟩), .pointer (some ⟨w1.heap.size + 1 + 1 + 1, 0, none⟩)]] 98 (cs := [_]) rfl
          simp only [World.size_alloc] at this
          exact this
        · refine ⟨?_, rfl, fun i hi => by simp at hi, fun i j hi hj => by simp at hi⟩
          have := row_empty (w1.alloc (.cells #[.pointer (some ⟨G, 0, none⟩)] 59)) 30
          simp only [World.size_alloc] at this ⊢
          exact (this.alloc _).alloc _
        rintro e w2 ⟨rfl, ⟨vo, vs, hS⟩, hbw2, hki⟩
        have hres := Lib.hid ((hS.out.mono (B' := w.heap.size) (by simp; omega)).resR)
        have ko := hS.co.cell? (i := 0) rfl
        clear hS hki
        have hbw := ball hb02 hbw2
        go_wp2_with fail
        go_ret2
        exact RetRB.of (hR.out.trans (if_pos (by simp))) (by have := hres.out; simpa using this) hbw

end Go.Proofs.Ytmhmdbmiimpbnaa
