/-
  Some texts of this proof in one: Half HalfS Bnd App AppP. Each part tells what it proves. By an AI agent.
-/
import Derived.Test.YtcionneopgdebaaGreatPtB
import Derived.Deep.DeepCutAuto
import Derived.Laws.AppendOwnNone
import Derived.Lib.LazyBuf
import Derived.Maps.AppendAt
import Derived.Laws.OwnMore

/-
  Half a hull: the program's. By an AI agent.
-/
namespace Go.Proofs.YtcionneopgdebaaGreat
open Go.RowKit

def AllSh (l : List Pt) : Prop := ∀ p ∈ l, Sh p
theorem AllSh.at {l : List Pt} (h : AllSh l) {i : Nat} (hi : i < l.length) : Sh (l.getD i default) := by
  rw [List.getD_eq_getElem?_getD, List.getElem?_eq_getElem hi, Option.getD_some]
  exact h _ (List.getElem_mem _)
theorem AllSh.drop {l : List Pt} (h : AllSh l) : AllSh l.dropLast := fun p hp => h p (List.dropLast_subset l hp)
theorem AllSh.snoc {l : List Pt} (h : AllSh l) {p : Pt} (hp : Sh p) : AllSh (l ++ [p]) := fun q hq => by
  rcases List.mem_append.1 hq with h1 | h1
  · exact h q h1
  · simp at h1; subst h1; exact hp
theorem popF_len (out : List Pt) (p : Pt) : (popF out p).length ≤ out.length := by
  induction h : out.length using Nat.strongRecOn generalizing out with
  | _ n ih =>
    cases hc : popB out p
    · rw [popF_stop hc]; omega
    · rw [popF_go hc]
      have h1 : 1 < out.length := by unfold popB at hc; simp at hc; omega
      have := ih (out.length - 1) (by omega) out.dropLast (by simp)
      omega

def lenOf : Value → Nat
  | .slice _ n _ => n
  | _ => 0

set_option maxHeartbeats 3200000 in
set_option maxRecDepth 100000 in
theorem half_c (ad : Option Addr) (cap : Nat) (l : List Pt) (w : World) (hr : RdP w ad l) (hl : l.length ≤ 100000) (h0 : 0 < l.length) (hs : AllSh l) :
    Calls Tryz.prog 61 #[.slice ad l.length cap] w fun e w' => ∃ v, e = .returned v ∧ RowP w' w.heap.size v (halfF l).dropLast ∧ Below w.heap.size w w' := by
  have HR := Lib.hid hr; clear hr
  obtain ⟨iP, hiP, hzP, hsP, hbP⟩ := info_parts Tryz.infoP
  go_enter Tryz.func61, Tryz.ntmps61
  go_wp2_with fail
  go_loopw [3, 9] (fun v i wr => ∃ k : Nat, k ≤ l.length ∧ i = .int .i64 k ∧ RowP wr w.heap.size v (halfF (l.take k)) ∧ AllSh (halfF (l.take k)) ∧ (halfF (l.take k)).length ≤ k ∧ Below w.heap.size w wr) (fun _ i _ => l.length - (intOf i).toNat)
  case atStart => exact ⟨0, Nat.zero_le _, rfl, rowP_empty w, (fun p hp => by simp [halfF] at hp), by simp [halfF], (Below.refl _ _).alloc (Nat.le_refl _) _⟩
  case round =>
    obtain ⟨wE, rfl⟩ : ∃ x : World, x = wr := ⟨_, rfl⟩
    obtain ⟨k, hk, rfl, hrow, hsh, hlen, hbel⟩ := hrel
    have HO := Lib.hid hrow; clear hrow
    by_cases hlt : k < l.length
    case neg =>
      obtain rfl : k = l.length := by omega
      rw [List.take_length] at HO hsh hlen
      have h1 : 0 < (halfF l).length := by
        obtain ⟨l', q, rfl⟩ : ∃ l' q, l = l' ++ [q] := ⟨l.dropLast, l.getLast (by intro e; subst e; simp at h0), (List.dropLast_concat_getLast _).symm⟩
        rw [halfF_snoc]; simp
      obtain ⟨adv, capv, rfl, hc1, hc2⟩ := HO.out.shape
      obtain ⟨m, hm⟩ : ∃ m, (halfF l).length = m + 1 := ⟨(halfF l).length - 1, by omega⟩
      have hdr := HO.out.drop h1
      rw [hm] at hdr hc1
      rw [Nat.add_sub_cancel] at hdr
      have HD := Lib.hid hdr; clear hdr HO
      have HM := Lib.hid hm
      obtain ⟨n, hn⟩ : ∃ n, (halfF l).length = n := ⟨_, rfl⟩
      rw [hn]
      have en : (n : Int) - 1 = (m : Int) := by omega
      have wn : IntKind.i64.wrap (m : Int) = (m : Int) := i64_small (by omega) (by omega)
      have mc : m ≤ capv := by omega
      have mn : m ≤ n := by omega
      clear hm hn
      go_wp2_with fail
      go_ret
      exact ⟨_, rfl, HD.out, hbel⟩
    case pos =>
      obtain ⟨b, off, rfl, hb, c0, c1⟩ := HR.out k hlt
      have d0 := bcell hbel hb c0
      have d1 := bcell hbel hb c1
      clear c0 c1
      have hps := hs.at hlt
      obtain ⟨p, hp⟩ : ∃ p, l.getD k default = p := ⟨_, rfl⟩
      rw [hp] at d0 d1 hps
      obtain ⟨px, py⟩ := p
      simp only at d0 d1
      have hnx := halfF_snoc (l.take k) ⟨px, py⟩
      rw [show l.take k ++ [⟨px, py⟩] = l.take (k + 1) by rw [← hp]; exact (List.take_succ_eq_append_getElem hlt).symm ▸ (by rw [List.getD_eq_getElem?_getD, List.getElem?_eq_getElem hlt, Option.getD_some])] at hnx
      have HNX := Lib.hid hnx; clear hnx hp
      go_wp2_with fail
      obtain ⟨wB, hwB⟩ : ∃ x, wE.alloc (.cells #[.int .i64 px, .int .i64 py] 66) = x := ⟨_, rfl⟩
      have hEB : Below wE.heap.size wE wB := by rw [← hwB]; exact (Below.refl _ _).alloc (Nat.le_refl _) _
      have b0 : wB.cell? ⟨wE.heap.size, 0, none⟩ = some (.int .i64 px) := by rw [← hwB]; simp [go_sem]
      have b1 : wB.cell? ⟨wE.heap.size, 1, none⟩ = some (.int .i64 py) := by rw [← hwB]; simp [go_sem]
      have bl : wE.heap.size < wB.heap.size := by rw [← hwB]; simp
      rw [hwB]
      clear hwB d0 d1
      have HOB := Lib.hid (HO.out.below hEB)
      have hbB := ball hbel hEB
      have hzE := hbel.size
      go_loopw [3] (fun v wr => ∃ o : List Pt, RowP wr w.heap.size v o ∧ AllSh o ∧ o.length ≤ k ∧ popF o ⟨px, py⟩ = popF (halfF (l.take k)) ⟨px, py⟩ ∧ Below wB.heap.size wB wr) (fun v _ => lenOf v)
      case atStart => exact ⟨_, HOB.out, hsh, hlen, rfl, Below.refl _ _⟩
      case round =>
        obtain ⟨wF, rfl⟩ : ∃ x : World, x = wr := ⟨_, rfl⟩
        obtain ⟨o, hro, hso, hol, hpo, hbF⟩ := hrel
        obtain ⟨adv, capv, rfl, hc1, hc2⟩ := hro.shape
        have HRO := Lib.hid hro; have HPO := Lib.hid hpo; clear hro hpo
        have e0 := bcell hbF bl b0
        have e1 := bcell hbF bl b1
        obtain ⟨c, hc⟩ : ∃ c, popB o ⟨px, py⟩ = c := ⟨_, rfl⟩
        have HCC := Lib.hid hc; clear hc
        go_upto_region 5 with fail
        go_cut [32] from 13 to 32 (fun s wc => s = .bool c ∧ Below wF.heap.size wF wc)
        case first =>
          by_cases hle : 1 < o.length
          case neg =>
            have g1 : decide ((1 : Int) < (o.length : Int)) = false := decide_eq_false (by omega)
            have g2 : decide (1 < o.length) = false := decide_eq_false hle
            have HLE := Lib.hid hle; clear hle
            go_wp2_with fail
            go_quiet (fail)
            go_wp2_with fail
            go_meet
            exact ⟨by rw [← HCC.out]; unfold popB; rw [decide_eq_false HLE.out, Bool.false_and], bdrewN (Below.refl _ _) nq⟩
          case pos =>
            have g1 : decide ((1 : Int) < (o.length : Int)) = true := decide_eq_true (by omega)
            have g2 : decide (1 < o.length) = true := decide_eq_true hle
            have hrd := HRO.out.rd
            obtain ⟨bo, offo, rfl, hbo⟩ := hrd.some (by omega)
            obtain ⟨i2, hi2⟩ : ∃ i2, o.length = i2 + 2 := ⟨o.length - 2, by omega⟩
            obtain ⟨i1, hi1⟩ : ∃ i1, o.length = i1 + 1 := ⟨o.length - 1, by omega⟩
            obtain ⟨p1, p2⟩ := hrd.at (show i2 < o.length by omega)
            obtain ⟨q1, q2⟩ := hrd.at (show i1 < o.length by omega)
            have s1 := hso.at (show i2 < o.length by omega)
            have s2 := hso.at (show i1 < o.length by omega)
            have f2 : (o.length : Int) - 2 = (i2 : Int) := by omega
            have f1 : (o.length : Int) - 1 = (i1 : Int) := by omega
            have w2 : IntKind.i64.wrap (i2 : Int) = (i2 : Int) := i64_small (by omega) (by omega)
            have w1 : IntKind.i64.wrap (i1 : Int) = (i1 : Int) := i64_small (by omega) (by omega)
            have x1 : (0 : Int) ≤ (i2 : Int) := by omega
            have x2 : (i2 : Int) < (o.length : Int) := by omega
            have x3 : (0 : Int) ≤ (i1 : Int) := by omega
            have x4 : (i1 : Int) < (o.length : Int) := by omega
            have hpop : popB o ⟨px, py⟩ = decide (turnZ (o.getD i2 default) (o.getD i1 default) ⟨px, py⟩ ≤ 0) := by unfold popB; rw [decide_eq_true hle, Bool.true_and, show o.length - 2 = i2 by omega, show o.length - 1 = i1 by omega]
            obtain ⟨pp, hpp⟩ : ∃ x, o.getD i2 default = x := ⟨_, rfl⟩
            obtain ⟨qq, hqq⟩ : ∃ x, o.getD i1 default = x := ⟨_, rfl⟩
            rw [hpp] at p1 p2 s1 hpop
            rw [hqq] at q1 q2 s2 hpop
            have ct := fun w => turn_c pp qq ⟨px, py⟩ w s1 s2 hps
            generalize turnZ pp qq ⟨px, py⟩ = z at ct hpop
            unfold ptV at ct
            have CT := Lib.hid ct; have HPOP := Lib.hid (HCC.out.symm.trans hpop); clear ct hpop hpp hqq hi1 hi2 s1 s2 hrd hps
            have lE : wE.heap.size < wF.heap.size := Nat.lt_of_lt_of_le bl hbF.size
            go_wp2_with fail
            go_region_held3 (fun w' => ((w'.cell? ⟨bo, offo + i2 * 2, none⟩ = some (.int .i64 pp.x) ∧ w'.cell? ⟨bo, offo + i2 * 2 + 1, none⟩ = some (.int .i64 pp.y)) ∧ w'.cell? ⟨bo, offo + i1 * 2, none⟩ = some (.int .i64 qq.x) ∧ w'.cell? ⟨bo, offo + i1 * 2 + 1, none⟩ = some (.int .i64 qq.y)) ∧ w'.cell? ⟨wE.heap.size, 0, none⟩ = some (.int .i64 px) ∧ w'.cell? ⟨wE.heap.size, 1, none⟩ = some (.int .i64 py)) (exact ⟨⟨⟨by assumption, by assumption⟩, by assumption, by assumption⟩, by assumption, by assumption⟩)
              (first
                | (go_at_call 86; (with_reducible refine (CT.out _).mono ?_); rintro e W1 ⟨rfl, hw1⟩; have m1 := bcell hw1 hbo p1; have m2 := bcell hw1 hbo p2; have m3 := bcell hw1 hbo q1; have m4 := bcell hw1 hbo q2; have m5 := bcell hw1 lE e0; have m6 := bcell hw1 lE e1))
            go_wp2_with fail
            go_meet
            exact ⟨by rw [HPOP.out], (Below.refl _ _).drew.trans hw1⟩
        case rest =>
          obtain ⟨rfl, hbc⟩ := hcut
          obtain ⟨wG, rfl⟩ : ∃ x : World, x = wc := ⟨_, rfl⟩
          have HRG := Lib.hid (HRO.out.below hbc)
          have hbG := ball hbF hbc
          have e2 := bcell hbc (Nat.lt_of_lt_of_le bl hbF.size) e0
          have e3 := bcell hbc (Nat.lt_of_lt_of_le bl hbF.size) e1
          clear hbc e0 e1
          cases c
          case true =>
            have h1 : 1 < o.length := by have := HCC.out; unfold popB at this; simp at this; omega
            have hdr := HRG.out.drop (by omega)
            obtain ⟨m, hm⟩ : ∃ m, o.length = m + 1 := ⟨o.length - 1, by omega⟩
            have hdl : o.dropLast.length = m := by rw [List.length_dropLast]; omega
            rw [show o.length - 1 = m by omega] at hdr
            have HDR := Lib.hid hdr; have HDL := Lib.hid hdl; clear hdr hdl
            have en : (o.length : Int) - 1 = (m : Int) := by omega
            have wn : IntKind.i64.wrap (m : Int) = (m : Int) := i64_small (by omega) (by omega)
            have mc : m ≤ capv := by omega
            have mn : m < o.length := by omega
            clear hm
            go_wp2_with fail
            go_roundw
            case rel => first | exact ⟨o.dropLast, HDR.out, hso.drop, by rw [HDL.out]; omega, by rw [← popF_go HCC.out]; exact HPO.out, hbG⟩ | ((repeat apply Exists.intro); exact ⟨⟨o.dropLast, HDR.out, hso.drop, by rw [HDL.out]; omega, by rw [← popF_go HCC.out]; exact HPO.out, hbG⟩, rfl⟩)
            case measure => simp [lenOf]; omega
          case false =>
            have HEQ := Lib.hid (show halfF (l.take (k + 1)) = o ++ [⟨px, py⟩] by rw [HNX.out, ← HPO.out, popF_stop HCC.out])
            clear HCC
            have hbw := ball hbB hbG
            have hszG := hbw.size
            go_wp2_with (at_builtin; refine wpList_append_lies _ rfl _ _ 32 rfl w.heap.size 66 iP _ 2 16 Tryz.underlyingP hiP hzP hsP hbP rfl (by omega) (.slice adv o.length capv) o.length (ptsV o) rfl (HRG.out.alloc _) ⟨wG.heap.size, 0, none⟩ 1 1 [.int .i64 px, .int .i64 py] rfl rfl (World.news_of_block (cs := #[.int .i64 px, .int .i64 py]) (t := 66) (fr := (0, 0)) (heap_alloc_new _ _)) (by simp [Value.oneCell']) (by omega) (by unfold maxLen; omega) (by omega) (by simp; omega) (wG.heap.size + 1) (by simp) ?_; intro g5 cap5 wm hown hgrow hat hlt5; clear hat)
            have hbm := appP_below hbw hszG HRG.out hgrow
            go_roundw
            case rel => first | exact ⟨k + 1, by omega, by go_num, by rw [HEQ.out]; exact rowP_congr hown (by simp) (ptsV_snoc o ⟨px, py⟩).symm, by rw [HEQ.out]; exact hso.snoc hps, by rw [HEQ.out]; simp; omega, hbm⟩ | ((repeat apply Exists.intro); exact ⟨⟨k + 1, by omega, by go_num, by rw [HEQ.out]; exact rowP_congr hown (by simp) (ptsV_snoc o ⟨px, py⟩).symm, by rw [HEQ.out]; exact hso.snoc hps, by rw [HEQ.out]; simp; omega, hbm⟩, rfl⟩)
            case measure => simp [intOf]; omega

end Go.Proofs.YtcionneopgdebaaGreat

/-
  Half a hull: the reference's. Printed by gen_half.py.
-/
namespace Go.Proofs.YtcionneopgdebaaGreat
open Go.RowKit

set_option maxHeartbeats 3200000 in
set_option maxRecDepth 100000 in
theorem pyHalf_c (ad : Option Addr) (cap : Nat) (l : List Pt) (w : World) (hr : RdP w ad l) (hl : l.length ≤ 100000) (hs : AllSh l) :
    Calls Tryz.prog 64 #[.slice ad l.length cap] w fun e w' => ∃ v, e = .returned v ∧ RowP w' w.heap.size v (halfF l) ∧ Below w.heap.size w w' := by
  have HR := Lib.hid hr; clear hr
  obtain ⟨iP, hiP, hzP, hsP, hbP⟩ := info_parts Tryz.infoP
  go_enter Tryz.func64, Tryz.ntmps64
  go_wp2_with fail
  go_loopw [3, 8] (fun v i wr => ∃ k : Nat, k ≤ l.length ∧ i = .int .i64 k ∧ RowP wr w.heap.size v (halfF (l.take k)) ∧ AllSh (halfF (l.take k)) ∧ (halfF (l.take k)).length ≤ k ∧ Below w.heap.size w wr) (fun _ i _ => l.length - (intOf i).toNat)
  case atStart => exact ⟨0, Nat.zero_le _, rfl, RowP.nil _ _, (fun p hp => by simp [halfF] at hp), by simp [halfF], Below.refl _ _⟩
  case round =>
    obtain ⟨wE, rfl⟩ : ∃ x : World, x = wr := ⟨_, rfl⟩
    obtain ⟨k, hk, rfl, hrow, hsh, hlen, hbel⟩ := hrel
    have HO := Lib.hid hrow; clear hrow
    by_cases hlt : k < l.length
    case neg =>
      obtain rfl : k = l.length := by omega
      rw [List.take_length] at HO hsh hlen
      go_wp2_with fail
      go_ret
      exact ⟨_, rfl, HO.out, hbel⟩
    case pos =>
      obtain ⟨b, off, rfl, hb, c0, c1⟩ := HR.out k hlt
      have d0 := bcell hbel hb c0
      have d1 := bcell hbel hb c1
      clear c0 c1
      have hps := hs.at hlt
      obtain ⟨p, hp⟩ : ∃ p, l.getD k default = p := ⟨_, rfl⟩
      rw [hp] at d0 d1 hps
      obtain ⟨px, py⟩ := p
      simp only at d0 d1
      have hnx := halfF_snoc (l.take k) ⟨px, py⟩
      rw [show l.take k ++ [⟨px, py⟩] = l.take (k + 1) by rw [← hp]; exact (List.take_succ_eq_append_getElem hlt).symm ▸ (by rw [List.getD_eq_getElem?_getD, List.getElem?_eq_getElem hlt, Option.getD_some])] at hnx
      have HNX := Lib.hid hnx; clear hnx hp
      go_wp2_with fail
      obtain ⟨wB, hwB⟩ : ∃ x, wE.alloc (.cells #[.int .i64 px, .int .i64 py] 66) = x := ⟨_, rfl⟩
      have hEB : Below wE.heap.size wE wB := by rw [← hwB]; exact (Below.refl _ _).alloc (Nat.le_refl _) _
      have b0 : wB.cell? ⟨wE.heap.size, 0, none⟩ = some (.int .i64 px) := by rw [← hwB]; simp [go_sem]
      have b1 : wB.cell? ⟨wE.heap.size, 1, none⟩ = some (.int .i64 py) := by rw [← hwB]; simp [go_sem]
      have bl : wE.heap.size < wB.heap.size := by rw [← hwB]; simp
      rw [hwB]
      clear hwB d0 d1
      have HOB := Lib.hid (HO.out.below hEB)
      have hbB := ball hbel hEB
      have hzE := hbel.size
      go_loopw [3] (fun v wr => ∃ o : List Pt, RowP wr w.heap.size v o ∧ AllSh o ∧ o.length ≤ k ∧ popF o ⟨px, py⟩ = popF (halfF (l.take k)) ⟨px, py⟩ ∧ Below wB.heap.size wB wr) (fun v _ => lenOf v)
      case atStart => exact ⟨_, HOB.out, hsh, hlen, rfl, Below.refl _ _⟩
      case round =>
        obtain ⟨wF, rfl⟩ : ∃ x : World, x = wr := ⟨_, rfl⟩
        obtain ⟨o, hro, hso, hol, hpo, hbF⟩ := hrel
        obtain ⟨adv, capv, rfl, hc1, hc2⟩ := hro.shape
        have HRO := Lib.hid hro; have HPO := Lib.hid hpo; clear hro hpo
        have e0 := bcell hbF bl b0
        have e1 := bcell hbF bl b1
        obtain ⟨c, hc⟩ : ∃ c, popB o ⟨px, py⟩ = c := ⟨_, rfl⟩
        have HCC := Lib.hid hc; clear hc
        go_upto_region 5 with fail
        go_cut [31] from 12 to 31 (fun s wc => s = .bool c ∧ Below wF.heap.size wF wc)
        case first =>
          by_cases hle : 1 < o.length
          case neg =>
            have g1 : decide ((1 : Int) < (o.length : Int)) = false := decide_eq_false (by omega)
            have g2 : decide (1 < o.length) = false := decide_eq_false hle
            have HLE := Lib.hid hle; clear hle
            go_wp2_with fail
            go_quiet (fail)
            go_wp2_with fail
            go_meet
            exact ⟨by rw [← HCC.out]; unfold popB; rw [decide_eq_false HLE.out, Bool.false_and], bdrewN (Below.refl _ _) nq⟩
          case pos =>
            have g1 : decide ((1 : Int) < (o.length : Int)) = true := decide_eq_true (by omega)
            have g2 : decide (1 < o.length) = true := decide_eq_true hle
            have hrd := HRO.out.rd
            obtain ⟨bo, offo, rfl, hbo⟩ := hrd.some (by omega)
            obtain ⟨i2, hi2⟩ : ∃ i2, o.length = i2 + 2 := ⟨o.length - 2, by omega⟩
            obtain ⟨i1, hi1⟩ : ∃ i1, o.length = i1 + 1 := ⟨o.length - 1, by omega⟩
            obtain ⟨p1, p2⟩ := hrd.at (show i2 < o.length by omega)
            obtain ⟨q1, q2⟩ := hrd.at (show i1 < o.length by omega)
            have s1 := hso.at (show i2 < o.length by omega)
            have s2 := hso.at (show i1 < o.length by omega)
            have f2 : (o.length : Int) - 2 = (i2 : Int) := by omega
            have f1 : (o.length : Int) - 1 = (i1 : Int) := by omega
            have w2 : IntKind.i64.wrap (i2 : Int) = (i2 : Int) := i64_small (by omega) (by omega)
            have w1 : IntKind.i64.wrap (i1 : Int) = (i1 : Int) := i64_small (by omega) (by omega)
            have x1 : (0 : Int) ≤ (i2 : Int) := by omega
            have x2 : (i2 : Int) < (o.length : Int) := by omega
            have x3 : (0 : Int) ≤ (i1 : Int) := by omega
            have x4 : (i1 : Int) < (o.length : Int) := by omega
            have hpop : popB o ⟨px, py⟩ = decide (turnZ (o.getD i2 default) (o.getD i1 default) ⟨px, py⟩ ≤ 0) := by unfold popB; rw [decide_eq_true hle, Bool.true_and, show o.length - 2 = i2 by omega, show o.length - 1 = i1 by omega]
            obtain ⟨pp, hpp⟩ : ∃ x, o.getD i2 default = x := ⟨_, rfl⟩
            obtain ⟨qq, hqq⟩ : ∃ x, o.getD i1 default = x := ⟨_, rfl⟩
            rw [hpp] at p1 p2 s1 hpop
            rw [hqq] at q1 q2 s2 hpop
            have ct := fun w => pyTurn_c pp qq ⟨px, py⟩ w s1.sm s2.sm hps.sm
            generalize turnZ pp qq ⟨px, py⟩ = z at ct hpop
            unfold ptV at ct
            have CT := Lib.hid ct; have HPOP := Lib.hid (HCC.out.symm.trans hpop); clear ct hpop hpp hqq hi1 hi2 s1 s2 hrd hps
            have lE : wE.heap.size < wF.heap.size := Nat.lt_of_lt_of_le bl hbF.size
            go_wp2_with fail
            go_region_held3 (fun w' => ((w'.cell? ⟨bo, offo + i2 * 2, none⟩ = some (.int .i64 pp.x) ∧ w'.cell? ⟨bo, offo + i2 * 2 + 1, none⟩ = some (.int .i64 pp.y)) ∧ w'.cell? ⟨bo, offo + i1 * 2, none⟩ = some (.int .i64 qq.x) ∧ w'.cell? ⟨bo, offo + i1 * 2 + 1, none⟩ = some (.int .i64 qq.y)) ∧ w'.cell? ⟨wE.heap.size, 0, none⟩ = some (.int .i64 px) ∧ w'.cell? ⟨wE.heap.size, 1, none⟩ = some (.int .i64 py)) (exact ⟨⟨⟨by assumption, by assumption⟩, by assumption, by assumption⟩, by assumption, by assumption⟩)
              (first
                | (go_at_call 51; (with_reducible refine (CT.out _).mono ?_); rintro e W1 ⟨rfl, hw1⟩; have m1 := bcell hw1 hbo p1; have m2 := bcell hw1 hbo p2; have m3 := bcell hw1 hbo q1; have m4 := bcell hw1 hbo q2; have m5 := bcell hw1 lE e0; have m6 := bcell hw1 lE e1))
            go_wp2_with fail
            go_meet
            exact ⟨by rw [HPOP.out], (Below.refl _ _).drew.trans hw1⟩
        case rest =>
          obtain ⟨rfl, hbc⟩ := hcut
          obtain ⟨wG, rfl⟩ : ∃ x : World, x = wc := ⟨_, rfl⟩
          have HRG := Lib.hid (HRO.out.below hbc)
          have hbG := ball hbF hbc
          have e2 := bcell hbc (Nat.lt_of_lt_of_le bl hbF.size) e0
          have e3 := bcell hbc (Nat.lt_of_lt_of_le bl hbF.size) e1
          clear hbc e0 e1
          cases c
          case true =>
            have h1 : 1 < o.length := by have := HCC.out; unfold popB at this; simp at this; omega
            have hdr := HRG.out.drop (by omega)
            obtain ⟨m, hm⟩ : ∃ m, o.length = m + 1 := ⟨o.length - 1, by omega⟩
            have hdl : o.dropLast.length = m := by rw [List.length_dropLast]; omega
            rw [show o.length - 1 = m by omega] at hdr
            have HDR := Lib.hid hdr; have HDL := Lib.hid hdl; clear hdr hdl
            have en : (o.length : Int) - 1 = (m : Int) := by omega
            have wn : IntKind.i64.wrap (m : Int) = (m : Int) := i64_small (by omega) (by omega)
            have mc : m ≤ capv := by omega
            have mn : m < o.length := by omega
            clear hm
            go_wp2_with fail
            go_roundw
            case rel => first | exact ⟨o.dropLast, HDR.out, hso.drop, by rw [HDL.out]; omega, by rw [← popF_go HCC.out]; exact HPO.out, hbG⟩ | ((repeat apply Exists.intro); exact ⟨⟨o.dropLast, HDR.out, hso.drop, by rw [HDL.out]; omega, by rw [← popF_go HCC.out]; exact HPO.out, hbG⟩, rfl⟩)
            case measure => simp [lenOf]; omega
          case false =>
            have HEQ := Lib.hid (show halfF (l.take (k + 1)) = o ++ [⟨px, py⟩] by rw [HNX.out, ← HPO.out, popF_stop HCC.out])
            clear HCC
            have hbw := ball hbB hbG
            have hszG := hbw.size
            go_wp2_with (at_builtin; refine wpList_append_lies _ rfl _ _ 32 rfl w.heap.size 66 iP _ 2 16 Tryz.underlyingP hiP hzP hsP hbP rfl (by omega) (.slice adv o.length capv) o.length (ptsV o) rfl (HRG.out.alloc _) ⟨wG.heap.size, 0, none⟩ 1 1 [.int .i64 px, .int .i64 py] rfl rfl (World.news_of_block (cs := #[.int .i64 px, .int .i64 py]) (t := 66) (fr := (0, 0)) (heap_alloc_new _ _)) (by simp [Value.oneCell']) (by omega) (by unfold maxLen; omega) (by omega) (by simp; omega) (wG.heap.size + 1) (by simp) ?_; intro g5 cap5 wm hown hgrow hat hlt5; clear hat)
            have hbm := appP_below hbw hszG HRG.out hgrow
            go_roundw
            case rel => first | exact ⟨k + 1, by omega, by go_num, by rw [HEQ.out]; exact rowP_congr hown (by simp) (ptsV_snoc o ⟨px, py⟩).symm, by rw [HEQ.out]; exact hso.snoc hps, by rw [HEQ.out]; simp; omega, hbm⟩ | ((repeat apply Exists.intro); exact ⟨⟨k + 1, by omega, by go_num, by rw [HEQ.out]; exact rowP_congr hown (by simp) (ptsV_snoc o ⟨px, py⟩).symm, by rw [HEQ.out]; exact hso.snoc hps, by rw [HEQ.out]; simp; omega, hbm⟩, rfl⟩)
            case measure => simp [intOf]; omega

end Go.Proofs.YtcionneopgdebaaGreat

/-
  The boundary's points and the double area of a polygon: program and reference. By an AI agent.
-/
namespace Go.Proofs.YtcionneopgdebaaGreat
open Go.RowKit

def nextP (l : List Pt) (i : Nat) : Pt := l.getD ((i + 1) % l.length) default
def edgeP (l : List Pt) (i : Nat) : Pt := subP (nextP l i) (l.getD i default)
def areaTo (l : List Pt) : Nat → Int
  | 0 => 0
  | n + 1 => areaTo l n + crossZ (l.getD n default) (nextP l n)
def areaP (l : List Pt) : Int := areaTo l l.length
/-- The edges of the reference: those that lead on. -/
def pyEd (l : List Pt) : Nat → List Pt
  | 0 => []
  | n + 1 => if l.getD n default = nextP l n then pyEd l n else pyEd l n ++ [edgeP l n]
theorem nextP_sh {l : List Pt} (hs : AllSh l) {i : Nat} (h : 0 < l.length) : Sh (nextP l i) := hs.at (Nat.mod_lt _ h)
theorem edgeP_sm {l : List Pt} (hs : AllSh l) {i : Nat} (hi : i < l.length) : Sm (edgeP l i) := (nextP_sh hs (by omega)).sub (hs.at hi)
theorem pyEd_sm {l : List Pt} (hs : AllSh l) : ∀ n, n ≤ l.length → ∀ p ∈ pyEd l n, Sm p
  | 0, _, p, hp => by simp [pyEd] at hp
  | n + 1, hn, p, hp => by
    unfold pyEd at hp
    split at hp
    · exact pyEd_sm hs n (by omega) p hp
    · rcases List.mem_append.1 hp with h | h
      · exact pyEd_sm hs n (by omega) p h
      · simp at h; subst h; exact edgeP_sm hs (by omega)
theorem crossZ_b {p q : Pt} (hp : Sh p) (hq : Sh q) : -1000000000000 ≤ crossZ p q ∧ crossZ p q ≤ 1000000000000 := by
  obtain ⟨h1, h2, h3, h4⟩ := hp
  obtain ⟨k1, k2, k3, k4⟩ := hq
  have m1 := mulb (K := 500000) (M := 500000) (by omega) (And.intro h1 h2) (And.intro k3 k4)
  have m2 := mulb (K := 500000) (M := 500000) (by omega) (And.intro h3 h4) (And.intro k1 k2)
  unfold crossZ
  omega
theorem areaTo_b {l : List Pt} (hs : AllSh l) : ∀ n, n ≤ l.length → -(1000000000000 * n) ≤ areaTo l n ∧ areaTo l n ≤ 1000000000000 * n
  | 0, _ => by simp [areaTo]
  | n + 1, hn => by
    have h1 := areaTo_b hs n (by omega)
    have h2 := crossZ_b (hs.at (show n < l.length by omega)) (nextP_sh hs (i := n) (by omega))
    simp only [areaTo]
    omega

set_option maxHeartbeats 800000 in
theorem nextI_c (ad : Option Addr) (cap : Nat) (l : List Pt) (i : Nat) (w : World) (hr : RdP w ad l) (hl : l.length ≤ 100000) (hi : i < l.length) :
    Calls Tryz.prog 69 #[.slice ad l.length cap, .int .i64 i] w fun e w' => e = .returned (ptV (nextP l i)) ∧ Below w.heap.size w w' := by
  have hrem := rem_next (i := i) (n := l.length)
  have hjl : (i + 1) % l.length < l.length := Nat.mod_lt _ (by omega)
  unfold nextP
  generalize (i + 1) % l.length = j at hrem hjl ⊢
  obtain ⟨b, off, rfl, hb, c0, c1⟩ := hr j hjl
  generalize l.getD j default = p at c0 c1 ⊢
  obtain ⟨px, py⟩ := p
  have e1 : IntKind.i64.wrap ((i : Int) + 1) = (i : Int) + 1 := i64_small (by omega) (by omega)
  have z : ((l.length : Int) == 0) = false := beq_eq_false_iff_ne.2 (by omega)
  have wj : IntKind.i64.wrap (j : Int) = (j : Int) := i64_small (by omega) (by omega)
  have x1 : (0 : Int) ≤ (j : Int) := by omega
  have x2 : (j : Int) < (l.length : Int) := by omega
  unfold ptV
  go_enter Tryz.func69, Tryz.ntmps69
  go_wp2_with fail
  exact bodyPost_ret (v := .agg #[.int .i64 px, .int .i64 py]) (by simp [results, Tryz.results69, go_sem]) rfl ⟨rfl, (Below.refl _ _).alloc (Nat.le_refl _) _⟩

set_option maxHeartbeats 1600000 in
theorem doubleArea_c (ad : Option Addr) (cap : Nat) (l : List Pt) (w : World) (hr : RdP w ad l) (hl : l.length ≤ 100000) (hs : AllSh l) :
    Calls Tryz.prog 39 #[.slice ad l.length cap] w fun e w' => e = .returned (.int .i64 (areaP l)) ∧ Below w.heap.size w w' := by
  have HR := Lib.hid hr; clear hr
  unfold areaP
  go_enter Tryz.func39, Tryz.ntmps39
  go_wp2_with fail
  go_loopw [3, 8] (fun s i wr => ∃ k : Nat, k ≤ l.length ∧ i = .int .i64 k ∧ s = .int .i64 (areaTo l k) ∧ Below w.heap.size w wr) (fun _ i _ => l.length - (intOf i).toNat)
  case atStart => exact ⟨0, Nat.zero_le _, rfl, rfl, Below.refl _ _⟩
  case round =>
    obtain ⟨wE, rfl⟩ : ∃ x : World, x = wr := ⟨_, rfl⟩
    obtain ⟨k, hk, rfl, rfl, hbel⟩ := hrel
    by_cases hlt : k < l.length
    case neg =>
      obtain rfl : k = l.length := by omega
      go_wp2_with fail
      go_ret
      exact ⟨rfl, hbel⟩
    case pos =>
      obtain ⟨b, off, rfl, hb, c0, c1⟩ := HR.out k hlt
      have d0 := bcell hbel hb c0
      have d1 := bcell hbel hb c1
      clear c0 c1
      have hcb := crossZ_b (hs.at hlt) (nextP_sh hs (i := k) (by omega))
      have hab := areaTo_b hs k hk
      have hst := show areaTo l (k + 1) = areaTo l k + crossZ (l.getD k default) (nextP l k) from rfl
      have cn := fun w h => nextI_c (some ⟨b, off, none⟩) cap l k w h hl hlt
      have cc := fun w => cross_c (l.getD k default) (nextP l k) w (hs.at hlt).sm (nextP_sh hs (i := k) (by omega)).sm
      generalize crossZ (l.getD k default) (nextP l k) = z at hcb hst cc
      generalize nextP l k = q at cn cc
      generalize l.getD k default = p at d0 d1 cc
      generalize areaTo l k = s at hab hst ⊢
      obtain ⟨px, py⟩ := p
      obtain ⟨qx, qy⟩ := q
      unfold ptV at cn cc
      simp only at d0 d1 cn cc
      have hw : IntKind.i64.wrap (s + z) = s + z := i64_small (by omega) (by omega)
      have HST := Lib.hid hst; have CN := Lib.hid cn; have CC := Lib.hid cc; clear hst cn cc hab hcb
      go_wp2_with fail
      obtain ⟨wB, hwB⟩ : ∃ x, wE.alloc (.cells #[.int .i64 px, .int .i64 py] 66) = x := ⟨_, rfl⟩
      have hEB : Below wE.heap.size wE wB := by rw [← hwB]; exact (Below.refl _ _).alloc (Nat.le_refl _) _
      have b0 : wB.cell? ⟨wE.heap.size, 0, none⟩ = some (.int .i64 px) := by rw [← hwB]; simp [go_sem]
      have b1 : wB.cell? ⟨wE.heap.size, 1, none⟩ = some (.int .i64 py) := by rw [← hwB]; simp [go_sem]
      have bl : wE.heap.size < wB.heap.size := by rw [← hwB]; simp
      rw [hwB]
      clear hwB d0 d1
      have hbB := ball hbel hEB
      have HRB := Lib.hid (HR.out.below (hbB.trans (Below.refl _ _).drew))
      go_region_held3 (fun w' => w'.cell? ⟨wE.heap.size, 0, none⟩ = some (.int .i64 px) ∧ w'.cell? ⟨wE.heap.size, 1, none⟩ = some (.int .i64 py)) (exact ⟨by assumption, by assumption⟩)
        (first
          | (go_at_call 69; (with_reducible refine (CN.out _ HRB.out).mono ?_); rintro e W1 ⟨rfl, hw1⟩; have m1 := bcell hw1 bl b0; have m2 := bcell hw1 bl b1; have n1 := hw1.size)
          | (go_at_call 68; (with_reducible refine (CC.out _).mono ?_); rintro e W2 ⟨rfl, hw2⟩; have m3 := bcell hw2 (Nat.lt_of_lt_of_le bl n1) m1; have m4 := bcell hw2 (Nat.lt_of_lt_of_le bl n1) m2))
      go_wp2_with fail
      go_roundw
      case rel => exact ⟨k + 1, by omega, by go_num, by rw [HST.out], ball (ball (hbB.trans (Below.refl _ _).drew) hw1) hw2⟩
      case measure => simp [intOf]; omega

set_option maxHeartbeats 1600000 in
theorem pyArea_c (ad : Option Addr) (cap : Nat) (l : List Pt) (w : World) (hr : RdP w ad l) (hl : l.length ≤ 100000) (hs : AllSh l) :
    Calls Tryz.prog 29 #[.slice ad l.length cap] w fun e w' => e = .returned (.int .i64 (areaP l)) ∧ Below w.heap.size w w' := by
  have HR := Lib.hid hr; clear hr
  unfold areaP
  go_enter Tryz.func29, Tryz.ntmps29
  go_wp2_with fail
  go_loopw [3, 9] (fun s i wr => ∃ k : Nat, k ≤ l.length ∧ i = .int .i64 k ∧ s = .int .i64 (areaTo l k) ∧ Below w.heap.size w wr) (fun _ i _ => l.length - (intOf i).toNat)
  case atStart => exact ⟨0, Nat.zero_le _, rfl, rfl, Below.refl _ _⟩
  case round =>
    obtain ⟨wE, rfl⟩ : ∃ x : World, x = wr := ⟨_, rfl⟩
    obtain ⟨k, hk, rfl, rfl, hbel⟩ := hrel
    by_cases hlt : k < l.length
    case neg =>
      obtain rfl : k = l.length := by omega
      go_wp2_with fail
      go_ret
      exact ⟨rfl, hbel⟩
    case pos =>
      obtain ⟨b, off, rfl, hb, c0, c1⟩ := HR.out k hlt
      have d0 := bcell hbel hb c0
      have d1 := bcell hbel hb c1
      clear c0 c1
      have hm1 := mulb (K := 500000) (M := 500000) (by omega) ⟨(hs.at hlt).1, (hs.at hlt).2.1⟩ ⟨(nextP_sh hs (i := k) (by omega)).2.2.1, (nextP_sh hs (i := k) (by omega)).2.2.2⟩
      have hm2 := mulb (K := 500000) (M := 500000) (by omega) ⟨(hs.at hlt).2.2.1, (hs.at hlt).2.2.2⟩ ⟨(nextP_sh hs (i := k) (by omega)).1, (nextP_sh hs (i := k) (by omega)).2.1⟩
      have hab := areaTo_b hs k hk
      have hst := show areaTo l (k + 1) = areaTo l k + ((l.getD k default).x * (nextP l k).y - (l.getD k default).y * (nextP l k).x) from rfl
      have hrem := rem_next (i := k) (n := l.length)
      have hjl : (k + 1) % l.length < l.length := Nat.mod_lt _ (by omega)
      unfold nextP at hst hm1 hm2
      generalize (k + 1) % l.length = j at hrem hjl hst hm1 hm2
      obtain ⟨f0, f1⟩ := HR.out.at hjl
      have g0 := bcell hbel hb f0
      have g1 := bcell hbel hb f1
      clear f0 f1
      generalize l.getD j default = q at g0 g1 hst hm1 hm2
      generalize l.getD k default = p at d0 d1 hst hm1 hm2
      generalize areaTo l k = s at hab hst ⊢
      obtain ⟨px, py⟩ := p
      obtain ⟨qx, qy⟩ := q
      simp only at d0 d1 g0 g1 hst hm1 hm2
      have e1 : IntKind.i64.wrap ((k : Int) + 1) = (k : Int) + 1 := i64_small (by omega) (by omega)
      have zz : ((l.length : Int) == 0) = false := beq_eq_false_iff_ne.2 (by omega)
      have wj : IntKind.i64.wrap (j : Int) = (j : Int) := i64_small (by omega) (by omega)
      have x1 : (0 : Int) ≤ (j : Int) := by omega
      have x2 : (j : Int) < (l.length : Int) := by omega
      have w1 : IntKind.i64.wrap (px * qy) = px * qy := i64_small (by omega) (by omega)
      have w2 : IntKind.i64.wrap (py * qx) = py * qx := i64_small (by omega) (by omega)
      have w3 : IntKind.i64.wrap (px * qy - py * qx) = px * qy - py * qx := i64_small (by omega) (by omega)
      have w4 : IntKind.i64.wrap (s + (px * qy - py * qx)) = s + (px * qy - py * qx) := i64_small (by omega) (by omega)
      have HST := Lib.hid hst; clear hst hab hm1 hm2
      have hz := hbel.size
      have hEB : Below wE.heap.size wE (wE.alloc (.cells #[.int .i64 px, .int .i64 py] 66)) := (Below.refl _ _).alloc (Nat.le_refl _) _
      have g2 := bcell hEB (Nat.lt_of_lt_of_le hb hz) g0
      have g3 := bcell hEB (Nat.lt_of_lt_of_le hb hz) g1
      clear hEB
      have hbN := (hbel.alloc hz (.cells #[.int .i64 px, .int .i64 py] 66)).alloc (by simp; omega) (.cells #[.int .i64 qx, .int .i64 qy] 66)
      go_wp2_with fail
      go_roundw
      case rel => exact ⟨k + 1, by omega, by go_num, by rw [HST.out], hbN⟩
      case measure => simp [intOf]; omega

end Go.Proofs.YtcionneopgdebaaGreat

/-
  append of points at a step of a region that draws its order. By an AI agent.
-/
namespace Go.Proofs.YtcionneopgdebaaGreat
open Go.RowKit

theorem RdP.news {w : World} {b off : Nat} {l : List Pt} (h : RdP w (Option.some ⟨b, off, none⟩) l) : ∀ j u, (ptsV l)[j]? = Option.some u → w.cell? ((⟨b, off, none⟩ : Addr).add j) = Option.some u := fun j u hu => by
  have hj : j < l.length * 2 := by
    have := (List.getElem?_eq_some_iff.1 hu).1
    rwa [ptsV_length] at this
  obtain ⟨c0, c1⟩ := h.at (show j / 2 < l.length by omega)
  obtain ⟨v0, v1⟩ := ptsV_get (show j / 2 < l.length by omega)
  have ea : (⟨b, off, none⟩ : Addr).add j = ⟨b, off + j, none⟩ := by unfold Addr.add; split <;> simp [*]
  rw [ea]
  by_cases hp : j % 2 = 0
  · have : j = j / 2 * 2 := by omega
    rw [this] at hu ⊢
    rw [v0] at hu
    rw [c0]; exact hu
  · have : j = j / 2 * 2 + 1 := by omega
    rw [this] at hu ⊢
    rw [v1] at hu
    rw [← Nat.add_assoc, c1]; exact hu
theorem ptsV_one (l : List Pt) : ∀ u ∈ ptsV l, u.oneCell' = true := fun u hu => by
  unfold ptsV at hu
  obtain ⟨p, _, hp⟩ := List.mem_flatMap.1 hu
  simp at hp
  rcases hp with h | h <;> subst h <;> rfl

/-- What is appended: nothing, or a row that is read. -/
def ReadsP (w : World) (X : Value) (l : List Pt) : Prop := (X = .slice none 0 0 ∧ l = []) ∨ ∃ b off c, X = .slice (some ⟨b, off, none⟩) l.length c ∧ RdP w (some ⟨b, off, none⟩) l
theorem ReadsP.below {w w' : World} {X : Value} {l : List Pt} (h : ReadsP w X l) (hb : Below w.heap.size w w') : ReadsP w' X l := by
  rcases h with h | ⟨b, off, c, h1, h2⟩
  · exact Or.inl h
  · exact Or.inr ⟨b, off, c, h1, h2.below hb⟩
/-- append at a step of a region that draws its order, whatever is appended. -/
theorem step_app {w : World} {ops : Array Oper} {o : Oper} {a : Act} {K : Act → World → Prop} {Q : Exit → Act → World → Prop} {E : Prop} (hgd : o.guard = none) (s x : Operand)
    (ho : o.op = .call { callee := .builtin .append, args := #[s, x], argTypes := #[32, 32] })
    (B : Nat) (v X : Value) (l m : List Pt) (hs : a.eval s = v) (hx : a.eval x = X) (hown : RowP w B v l) (hX : ReadsP w X m) (hl : l.length ≤ 100000) (hm : m.length ≤ 100000) (hB : B ≤ w.heap.size)
    (h : ∀ v' w', RowP w' B v' (l ++ m) → Below B w w' → w.grownBy w' v.ownBlock → K (a.put o.dst v') w') :
    if Region.wanted o (yielded ops a.tmps) = true then Oper.wp Tryz.prog o a w K Q else E := by
  have hw : Region.wanted o (yielded ops a.tmps) = true := by simp [Region.wanted, hgd]
  rw [if_pos hw]
  obtain ⟨iP, hiP, hzP, hsP, hbP⟩ := info_parts Tryz.infoP
  rcases hX with ⟨rfl, rfl⟩ | ⟨b, off, c, rfl, hrd⟩
  · have hr := run_append_owned_none (P := Tryz.prog) w B 32 o.type 66 iP 2 Tryz.underlyingP hiP v l.length (ptsV l) hown
    unfold Oper.wp execOp
    simp only [ho, resolve, invoke, builtin, Sem.run_bind, Sem.run_pure, Result.andThen_ok, List.map_toArray, List.map_cons, List.map_nil, hs, hx, hr]
    exact h v w (by rw [List.append_nil]; exact hown) (Below.refl _ _) ⟨rfl, rfl, rfl, Nat.le_refl _, fun _ _ _ => rfl⟩
  · obtain ⟨v', w', hr, h2, h3, _, _⟩ := run_append_own_at (P := Tryz.prog) w B 32 o.type 66 iP _ 2 16 Tryz.underlyingP hiP hzP hsP hbP rfl (by omega) v l.length (ptsV l) hown ⟨b, off, none⟩ m.length c (ptsV m) (ptsV_length m) hrd.news (ptsV_one m) (by unfold maxLen; omega) (by omega) hB
    unfold Oper.wp execOp
    simp only [ho, resolve, invoke, builtin, Sem.run_bind, Sem.run_pure, Result.andThen_ok, List.map_toArray, List.map_cons, List.map_nil, hs, hx, hr]
    exact h v' w' (rowP_congr h2 (by simp) (ptsV_append l m).symm) ((Below.refl _ _).grown h3 hB (fun q e => (hown.lt q e).1)) h3
theorem rowP_new (u : World) (B H : Nat) (hB : B ≤ u.heap.size) (hH : u.heap.size = H) : RowP (u.alloc (.cells #[] 66)) B (.slice (some ⟨H, 0, none⟩) 0 0) [] := by
  subst hH
  exact World.ownsRow_made u #[] 0 hB (by decide) rfl
theorem readsP_one (u : World) (H : Nat) (x y : Int) (hH : u.heap.size = H) : ReadsP (u.alloc (.cells #[.int .i64 x, .int .i64 y] 66)) (.slice (some ⟨H, 0, none⟩) 1 1) [⟨x, y⟩] := by
  subst hH
  refine Or.inr ⟨_, _, 1, rfl, fun j hj => ?_⟩
  obtain rfl : j = 0 := by simpa using hj
  exact ⟨_, _, rfl, by simp, by simp [go_sem], by simp [go_sem]⟩

theorem readsP_nil (w : World) : ReadsP w (.slice none 0 0) [] := Or.inl ⟨rfl, rfl⟩
theorem ReadsP.alloc' {w : World} {X : Value} {l : List Pt} {o : Obj} (h : ReadsP w X l) : ReadsP (w.alloc o) X l := h.below ((Below.refl _ _).alloc (Nat.le_refl _) _)
theorem ReadsP.drew' {w : World} {X : Value} {l : List Pt} (h : ReadsP w X l) : ReadsP w.drew X l := h.below (Below.refl _ _).drew
theorem RowP.alloc' {w : World} {B : Nat} {v : Value} {l : List Pt} {o : Obj} (h : RowP w B v l) : RowP (w.alloc o) B v l := h.below ((Below.refl _ _).alloc (Nat.le_refl _) _)
theorem RowP.drew' {w : World} {B : Nat} {v : Value} {l : List Pt} (h : RowP w B v l) : RowP w.drew B v l := h.below (Below.refl _ _).drew
theorem ReadsP.grown {w w' : World} {row : Option Nat} {H : Nat} {x : List Pt} (h : ReadsP w (.slice (some ⟨H, 0, none⟩) 1 1) x) (hg : w.grownBy w' row) (hne : some H ≠ row) : ReadsP w' (.slice (some ⟨H, 0, none⟩) 1 1) x := by
  rcases h with ⟨h, _⟩ | ⟨b, off, c, h1, h2⟩
  · cases h
  · refine Or.inr ⟨b, off, c, h1, fun j hj => ?_⟩
    injection h1 with h1 _ _
    injection h1 with h1
    injection h1 with h1 h1' _
    subst h1; subst h1'
    obtain ⟨b', off', e, hl, c0, c1⟩ := h2 j hj
    cases e
    exact ⟨_, _, rfl, Nat.lt_of_lt_of_le hl hg.size, by rw [World.grownBy.cell_far hg _ hl hne]; exact c0, by rw [World.grownBy.cell_far hg _ hl hne]; exact c1⟩
theorem RowP.mono {w : World} {B B' : Nat} {v : Value} {l : List Pt} (h : RowP w B v l) (hB : B' ≤ B) : RowP w B' v l := by
  refine ⟨h.1, ?_⟩
  rcases h.2 with hn | ⟨g, cap, cur, rfl, hb, hgg, rest⟩
  · exact .inl hn
  · exact .inr ⟨g, cap, cur, rfl, Nat.le_trans hB hb, hgg, rest⟩
theorem RdP.takeDrop {w : World} {b off : Nat} {l : List Pt} (h : RdP w (Option.some ⟨b, off, none⟩) l) (k : Nat) : RdP w (Option.some ⟨b, off, none⟩) (l.take k) ∧ RdP w (Option.some ⟨b, off + k * 2, none⟩) (l.drop k) := by
  refine ⟨fun j hj => ?_, fun j hj => ?_⟩
  · have hj' : j < k ∧ j < l.length := by rw [List.length_take] at hj; omega
    obtain ⟨b', off', e, hl, c0, c1⟩ := h j hj'.2
    have e' : (l.take k).getD j default = l.getD j default := by simp [List.getD_eq_getElem?_getD, hj'.1]
    exact ⟨b', off', e, hl, by rw [e']; exact c0, by rw [e']; exact c1⟩
  · have hj' : k + j < l.length := by rw [List.length_drop] at hj; omega
    obtain ⟨b', off', e, hl, c0, c1⟩ := h (k + j) hj'
    have e' : (l.drop k).getD j default = l.getD (k + j) default := by simp [List.getD_eq_getElem?_getD]
    cases e
    exact ⟨b, off + k * 2, rfl, hl, by rw [e', show off + k * 2 + j * 2 = off + (k + j) * 2 by omega]; exact c0, by rw [e', show off + k * 2 + j * 2 + 1 = off + (k + j) * 2 + 1 by omega]; exact c1⟩
end Go.Proofs.YtcionneopgdebaaGreat

/-
  append of points in a plain region, and cells of rows of points. By an AI agent.
-/
namespace Go.Proofs.YtcionneopgdebaaGreat
open Go.RowKit

/-- append of points in the list of a plain region. -/
theorem wpList_appP {w : World} {ops : Array Oper} {rest : List Oper} {o : Oper} {a : Act} {Q : Exit → Act → World → Prop} (hgd : o.guard = none) (s x : Operand)
    (ho : o.op = .call { callee := .builtin .append, args := #[s, x], argTypes := #[32, 32] })
    (B b off c : Nat) (v : Value) (l m : List Pt) (hs : a.eval s = v) (hx : a.eval x = .slice (some ⟨b, off, none⟩) m.length c) (hown : RowP w B v l) (hrd : RdP w (some ⟨b, off, none⟩) m) (hl : l.length ≤ 100000) (hm : m.length ≤ 100000) (hB : B ≤ w.heap.size)
    (h : ∀ v' w', RowP w' B v' (l ++ m) → Below B w w' → wpList Tryz.prog ops Q rest (a.put o.dst v') w') : wpList Tryz.prog ops Q (o :: rest) a w := by
  refine wpList_plain hgd fun _ hK => ?_
  obtain ⟨iP, hiP, hzP, hsP, hbP⟩ := info_parts Tryz.infoP
  obtain ⟨v', w', hr, h2, h3, _, _⟩ := run_append_own_at (P := Tryz.prog) w B 32 o.type 66 iP _ 2 16 Tryz.underlyingP hiP hzP hsP hbP rfl (by omega) v l.length (ptsV l) hown ⟨b, off, none⟩ m.length c (ptsV m) (ptsV_length m) hrd.news (ptsV_one m) (by unfold maxLen; omega) (by omega) hB
  unfold Oper.wp execOp
  simp only [ho, resolve, invoke, builtin, Sem.run_bind, Sem.run_pure, Result.andThen_ok, List.map_toArray, List.map_cons, List.map_nil, hs, hx, hr]
  exact hK _ _ (h v' w' (rowP_congr h2 (by simp) (ptsV_append l m).symm) ((Below.refl _ _).grown h3 hB (fun q e => (hown.lt q e).1)))
theorem rdP_one (u : World) (H : Nat) (x y : Int) (hH : u.heap.size = H) : RdP (u.alloc (.cells #[.int .i64 x, .int .i64 y] 66)) (some ⟨H, 0, none⟩) [⟨x, y⟩] := by
  rcases readsP_one u H x y hH with ⟨h, _⟩ | ⟨b, off, c, h, h2⟩
  · cases h
  · injection h with h _ _
    injection h with h
    injection h with h1 h2' _
    subst h1; subst h2'
    exact h2
end Go.Proofs.YtcionneopgdebaaGreat
