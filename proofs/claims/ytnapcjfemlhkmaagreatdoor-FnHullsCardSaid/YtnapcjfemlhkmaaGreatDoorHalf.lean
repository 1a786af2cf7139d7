/-
  Some texts of this proof in one: Half HalfS Bnd App BndE BndF AppP. Each part tells what it proves. By an AI agent.
-/
import Derived.Test.YtnapcjfemlhkmaaGreatDoorPtF
import Derived.Deep.DeepCutAuto
import Derived.Laws.AppendOwnNone
import Derived.Lib.LazyBuf
import Derived.Maps.AppendAt
import Derived.Laws.OwnMore

/-
  Half a hull: the program's. By an AI agent.
-/
namespace Go.Proofs.YtnapcjfemlhkmaaGreatDoor
open Go.RowKit

def AllSh (l : List Pt) : Prop := ∀ p ∈ l, Sh p
theorem AllSh.at {l : List Pt} (h : AllSh l) {i : Nat} (hi : i < l.length) : Sh (l.getD i default) := by
  rw [List.getD_eq_getElem?_getD, List.getElem?_eq_getElem hi, Option.getD_some]
  exact h _ (List.getElem_mem _)
theorem AllSh.drop {l : List Pt} (h : AllSh l) : AllSh l.dropLast := fun p hp => h p (List.dropLast_subset l hp)
theorem AllSh.snoc {l : List Pt} (h : AllSh l) {p : Pt} (hp : Sh p) : AllSh (l ++ [p]) := fun q hq => by
  rcases List.mem_append.1 hq with h1 | h1
  · exact h q h1
  · simp at h1; subst h1; exact hp
theorem popF_len (out : List Pt) (p : Pt) : (popF out p).length ≤ out.length := by
  induction h : out.length using Nat.strongRecOn generalizing out with
  | _ n ih =>
    cases hc : popB out p
    · rw [popF_stop hc]; omega
    · rw [popF_go hc]
      have h1 : 1 < out.length := by unfold popB at hc; simp at hc; omega
      have := ih (out.length - 1) (by omega) out.dropLast (by simp)
      omega

def lenOf : Value → Nat
  | .slice _ n _ => n
  | _ => 0

set_option maxHeartbeats 3200000 in
set_option maxRecDepth 100000 in
theorem half_c (ad : Option Addr) (cap : Nat) (l : List Pt) (w : World) (hr : RdP w ad l) (hl : l.length ≤ 100000) (h0 : 0 < l.length) (hs : AllSh l) :
    Calls Tryz.prog 62 #[.slice ad l.length cap] w fun e w' => ∃ v, e = .returned v ∧ RowP w' w.heap.size v (halfF l).dropLast ∧ Below w.heap.size w w' := by
  have HR := Lib.hid hr; clear hr
  obtain ⟨iP, hiP, hzP, hsP, hbP⟩ := info_parts Tryz.infoP
  go_enter Tryz.func62, Tryz.ntmps62
  go_wp2_with fail
  go_loopw [3, 9] (fun v i wr => ∃ k : Nat, k ≤ l.length ∧ i = .int .i64 k ∧ RowP wr w.heap.size v (halfF (l.take k)) ∧ AllSh (halfF (l.take k)) ∧ (halfF (l.take k)).length ≤ k ∧ Below w.heap.size w wr) (fun _ i _ => l.length - (intOf i).toNat)
  case atStart => exact ⟨0, Nat.zero_le _, rfl, rowP_empty w, (fun p hp => by simp [halfF] at hp), by simp [halfF], (Below.refl _ _).alloc (Nat.le_refl _) _⟩
  case round =>
    obtain ⟨wE, rfl⟩ : ∃ x : World, x = wr := ⟨_, rfl⟩
    obtain ⟨k, hk, rfl, hrow, hsh, hlen, hbel⟩ := hrel
    have HO := Lib.hid hrow; clear hrow
    by_cases hlt : k < l.length
    case neg =>
      obtain rfl : k = l.length := by omega
      rw [List.take_length] at HO hsh hlen
      have h1 : 0 < (halfF l).length := by
        obtain ⟨l', q, rfl⟩ : ∃ l' q, l = l' ++ [q] := ⟨l.dropLast, l.getLast (by intro e; subst e; simp at h0), (List.dropLast_concat_getLast _).symm⟩
        rw [halfF_snoc]; simp
      obtain ⟨adv, capv, rfl, hc1, hc2⟩ := HO.out.shape
      obtain ⟨m, hm⟩ : ∃ m, (halfF l).length = m + 1 := ⟨(halfF l).length - 1, by omega⟩
      have hdr := HO.out.drop h1
      rw [hm] at hdr hc1
      rw [Nat.add_sub_cancel] at hdr
      have HD := Lib.hid hdr; clear hdr HO
      have HM := Lib.hid hm
      obtain ⟨n, hn⟩ : ∃ n, (halfF l).length = n := ⟨_, rfl⟩
      rw [hn]
      have en : (n : Int) - 1 = (m : Int) := by omega
      have wn : IntKind.i64.wrap (m : Int) = (m : Int) := i64_small (by omega) (by omega)
      have mc : m ≤ capv := by omega
      have mn : m ≤ n := by omega
      clear hm hn
      go_wp2_with fail
      go_ret
      exact ⟨_, rfl, HD.out, hbel⟩
    case pos =>
      obtain ⟨b, off, rfl, hb, c0, c1⟩ := HR.out k hlt
      have d0 := bcell hbel hb c0
      have d1 := bcell hbel hb c1
      clear c0 c1
      have hps := hs.at hlt
      obtain ⟨p, hp⟩ : ∃ p, l.getD k default = p := ⟨_, rfl⟩
      rw [hp] at d0 d1 hps
      obtain ⟨px, py⟩ := p
      simp only at d0 d1
      have hnx := halfF_snoc (l.take k) ⟨px, py⟩
      rw [show l.take k ++ [⟨px, py⟩] = l.take (k + 1) by rw [← hp]; exact (List.take_succ_eq_append_getElem hlt).symm ▸ (by rw [List.getD_eq_getElem?_getD, List.getElem?_eq_getElem hlt, Option.getD_some])] at hnx
      have HNX := Lib.hid hnx; clear hnx hp
      go_wp2_with fail
      obtain ⟨wB, hwB⟩ : ∃ x, wE.alloc (.cells #[.int .i64 px, .int .i64 py] 30) = x := ⟨_, rfl⟩
      have hEB : Below wE.heap.size wE wB := by rw [← hwB]; exact (Below.refl _ _).alloc (Nat.le_refl _) _
      have b0 : wB.cell? ⟨wE.heap.size, 0, none⟩ = some (.int .i64 px) := by rw [← hwB]; simp [go_sem]
      have b1 : wB.cell? ⟨wE.heap.size, 1, none⟩ = some (.int .i64 py) := by rw [← hwB]; simp [go_sem]
      have bl : wE.heap.size < wB.heap.size := by rw [← hwB]; simp
      rw [hwB]
      clear hwB d0 d1
      have HOB := Lib.hid (HO.out.below hEB)
      have hbB := ball hbel hEB
      have hzE := hbel.size
      go_loopw [3] (fun v wr => ∃ o : List Pt, RowP wr w.heap.size v o ∧ AllSh o ∧ o.length ≤ k ∧ popF o ⟨px, py⟩ = popF (halfF (l.take k)) ⟨px, py⟩ ∧ Below wB.heap.size wB wr) (fun v _ => lenOf v)
      case atStart => exact ⟨_, HOB.out, hsh, hlen, rfl, Below.refl _ _⟩
      case round =>
        obtain ⟨wF, rfl⟩ : ∃ x : World, x = wr := ⟨_, rfl⟩
        obtain ⟨o, hro, hso, hol, hpo, hbF⟩ := hrel
        obtain ⟨adv, capv, rfl, hc1, hc2⟩ := hro.shape
        have HRO := Lib.hid hro; have HPO := Lib.hid hpo; clear hro hpo
        have e0 := bcell hbF bl b0
        have e1 := bcell hbF bl b1
        obtain ⟨c, hc⟩ : ∃ c, popB o ⟨px, py⟩ = c := ⟨_, rfl⟩
        have HCC := Lib.hid hc; clear hc
        go_upto_region 5 with fail
        go_cut [32] from 13 to 32 (fun s wc => s = .bool c ∧ Below wF.heap.size wF wc)
        case first =>
          by_cases hle : 1 < o.length
          case neg =>
            have g1 : decide ((1 : Int) < (o.length : Int)) = false := decide_eq_false (by omega)
            have g2 : decide (1 < o.length) = false := decide_eq_false hle
            have HLE := Lib.hid hle; clear hle
            go_wp2_with fail
            go_quiet (fail)
            go_wp2_with fail
            go_meet
            exact ⟨by rw [← HCC.out]; unfold popB; rw [decide_eq_false HLE.out, Bool.false_and], bdrewN (Below.refl _ _) nq⟩
          case pos =>
            have g1 : decide ((1 : Int) < (o.length : Int)) = true := decide_eq_true (by omega)
            have g2 : decide (1 < o.length) = true := decide_eq_true hle
            have hrd := HRO.out.rd
            obtain ⟨bo, offo, rfl, hbo⟩ := hrd.some (by omega)
            obtain ⟨i2, hi2⟩ : ∃ i2, o.length = i2 + 2 := ⟨o.length - 2, by omega⟩
            obtain ⟨i1, hi1⟩ : ∃ i1, o.length = i1 + 1 := ⟨o.length - 1, by omega⟩
            obtain ⟨p1, p2⟩ := hrd.at (show i2 < o.length by omega)
            obtain ⟨q1, q2⟩ := hrd.at (show i1 < o.length by omega)
            have s1 := hso.at (show i2 < o.length by omega)
            have s2 := hso.at (show i1 < o.length by omega)
            have f2 : (o.length : Int) - 2 = (i2 : Int) := by omega
            have f1 : (o.length : Int) - 1 = (i1 : Int) := by omega
            have w2 : IntKind.i64.wrap (i2 : Int) = (i2 : Int) := i64_small (by omega) (by omega)
            have w1 : IntKind.i64.wrap (i1 : Int) = (i1 : Int) := i64_small (by omega) (by omega)
            have x1 : (0 : Int) ≤ (i2 : Int) := by omega
            have x2 : (i2 : Int) < (o.length : Int) := by omega
            have x3 : (0 : Int) ≤ (i1 : Int) := by omega
            have x4 : (i1 : Int) < (o.length : Int) := by omega
            have hpop : popB o ⟨px, py⟩ = decide (turnZ (o.getD i2 default) (o.getD i1 default) ⟨px, py⟩ ≤ 0) := by unfold popB; rw [decide_eq_true hle, Bool.true_and, show o.length - 2 = i2 by omega, show o.length - 1 = i1 by omega]
            obtain ⟨pp, hpp⟩ : ∃ x, o.getD i2 default = x := ⟨_, rfl⟩
            obtain ⟨qq, hqq⟩ : ∃ x, o.getD i1 default = x := ⟨_, rfl⟩
            rw [hpp] at p1 p2 s1 hpop
            rw [hqq] at q1 q2 s2 hpop
            have ct := fun w => turn_c pp qq ⟨px, py⟩ w s1 s2 hps
            generalize turnZ pp qq ⟨px, py⟩ = z at ct hpop
            unfold ptV at ct
            have CT := Lib.hid ct; have HPOP := Lib.hid (HCC.out.symm.trans hpop); clear ct hpop hpp hqq hi1 hi2 s1 s2 hrd hps
            have lE : wE.heap.size < wF.heap.size := Nat.lt_of_lt_of_le bl hbF.size
            go_wp2_with fail
            go_region_held3 (fun w' => ((w'.cell? ⟨bo, offo + i2 * 2, none⟩ = some (.int .i64 pp.x) ∧ w'.cell? ⟨bo, offo + i2 * 2 + 1, none⟩ = some (.int .i64 pp.y)) ∧ w'.cell? ⟨bo, offo + i1 * 2, none⟩ = some (.int .i64 qq.x) ∧ w'.cell? ⟨bo, offo + i1 * 2 + 1, none⟩ = some (.int .i64 qq.y)) ∧ w'.cell? ⟨wE.heap.size, 0, none⟩ = some (.int .i64 px) ∧ w'.cell? ⟨wE.heap.size, 1, none⟩ = some (.int .i64 py)) (exact ⟨⟨⟨by assumption, by assumption⟩, by assumption, by assumption⟩, by assumption, by assumption⟩)
              (first
                | (go_at_call 33; (with_reducible refine (CT.out _).mono ?_); rintro e W1 ⟨rfl, hw1⟩; have m1 := bcell hw1 hbo p1; have m2 := bcell hw1 hbo p2; have m3 := bcell hw1 hbo q1; have m4 := bcell hw1 hbo q2; have m5 := bcell hw1 lE e0; have m6 := bcell hw1 lE e1))
            go_wp2_with fail
            go_meet
            exact ⟨by rw [HPOP.out], (Below.refl _ _).drew.trans hw1⟩
        case rest =>
          obtain ⟨rfl, hbc⟩ := hcut
          obtain ⟨wG, rfl⟩ : ∃ x : World, x = wc := ⟨_, rfl⟩
          have HRG := Lib.hid (HRO.out.below hbc)
          have hbG := ball hbF hbc
          have e2 := bcell hbc (Nat.lt_of_lt_of_le bl hbF.size) e0
          have e3 := bcell hbc (Nat.lt_of_lt_of_le bl hbF.size) e1
          clear hbc e0 e1
          cases c
          case true =>
            have h1 : 1 < o.length := by have := HCC.out; unfold popB at this; simp at this; omega
            have hdr := HRG.out.drop (by omega)
            obtain ⟨m, hm⟩ : ∃ m, o.length = m + 1 := ⟨o.length - 1, by omega⟩
            have hdl : o.dropLast.length = m := by rw [List.length_dropLast]; omega
            rw [show o.length - 1 = m by omega] at hdr
            have HDR := Lib.hid hdr; have HDL := Lib.hid hdl; clear hdr hdl
            have en : (o.length : Int) - 1 = (m : Int) := by omega
            have wn : IntKind.i64.wrap (m : Int) = (m : Int) := i64_small (by omega) (by omega)
            have mc : m ≤ capv := by omega
            have mn : m < o.length := by omega
            clear hm
            go_wp2_with fail
            go_roundw
            case rel => first | exact ⟨o.dropLast, HDR.out, hso.drop, by rw [HDL.out]; omega, by rw [← popF_go HCC.out]; exact HPO.out, hbG⟩ | ((repeat apply Exists.intro); exact ⟨⟨o.dropLast, HDR.out, hso.drop, by rw [HDL.out]; omega, by rw [← popF_go HCC.out]; exact HPO.out, hbG⟩, rfl⟩)
            case measure => simp [lenOf]; omega
          case false =>
            have HEQ := Lib.hid (show halfF (l.take (k + 1)) = o ++ [⟨px, py⟩] by rw [HNX.out, ← HPO.out, popF_stop HCC.out])
            clear HCC
            have hbw := ball hbB hbG
            have hszG := hbw.size
            go_wp2_with (at_builtin; refine wpList_append_lies _ rfl _ _ 23 rfl w.heap.size 30 iP _ 2 16 Tryz.underlyingP hiP hzP hsP hbP rfl (by omega) (.slice adv o.length capv) o.length (ptsV o) rfl (HRG.out.alloc _) ⟨wG.heap.size, 0, none⟩ 1 1 [.int .i64 px, .int .i64 py] rfl rfl (World.news_of_block (cs := #[.int .i64 px, .int .i64 py]) (t := 30) (fr := (0, 0)) (heap_alloc_new _ _)) (by simp [Value.oneCell']) (by omega) (by unfold maxLen; omega) (by omega) (by simp; omega) (wG.heap.size + 1) (by simp) ?_; intro g5 cap5 wm hown hgrow hat hlt5; clear hat)
            have hbm := appP_below hbw hszG HRG.out hgrow
            go_roundw
            case rel => first | exact ⟨k + 1, by omega, by go_num, by rw [HEQ.out]; exact rowP_congr hown (by simp) (ptsV_snoc o ⟨px, py⟩).symm, by rw [HEQ.out]; exact hso.snoc hps, by rw [HEQ.out]; simp; omega, hbm⟩ | ((repeat apply Exists.intro); exact ⟨⟨k + 1, by omega, by go_num, by rw [HEQ.out]; exact rowP_congr hown (by simp) (ptsV_snoc o ⟨px, py⟩).symm, by rw [HEQ.out]; exact hso.snoc hps, by rw [HEQ.out]; simp; omega, hbm⟩, rfl⟩)
            case measure => simp [intOf]; omega

end Go.Proofs.YtnapcjfemlhkmaaGreatDoor

/-
  Half a hull: the reference's. Printed by gen_half.py.
-/
namespace Go.Proofs.YtnapcjfemlhkmaaGreatDoor
open Go.RowKit

set_option maxHeartbeats 3200000 in
set_option maxRecDepth 100000 in
theorem pyHalf_c (ad : Option Addr) (cap : Nat) (l : List Pt) (w : World) (hr : RdP w ad l) (hl : l.length ≤ 100000) (hs : AllSh l) :
    Calls Tryz.prog 66 #[.slice ad l.length cap] w fun e w' => ∃ v, e = .returned v ∧ RowP w' w.heap.size v (halfF l) ∧ Below w.heap.size w w' := by
  have HR := Lib.hid hr; clear hr
  obtain ⟨iP, hiP, hzP, hsP, hbP⟩ := info_parts Tryz.infoP
  go_enter Tryz.func66, Tryz.ntmps66
  go_wp2_with fail
  go_loopw [3, 8] (fun v i wr => ∃ k : Nat, k ≤ l.length ∧ i = .int .i64 k ∧ RowP wr w.heap.size v (halfF (l.take k)) ∧ AllSh (halfF (l.take k)) ∧ (halfF (l.take k)).length ≤ k ∧ Below w.heap.size w wr) (fun _ i _ => l.length - (intOf i).toNat)
  case atStart => exact ⟨0, Nat.zero_le _, rfl, RowP.nil _ _, (fun p hp => by simp [halfF] at hp), by simp [halfF], Below.refl _ _⟩
  case round =>
    obtain ⟨wE, rfl⟩ : ∃ x : World, x = wr := ⟨_, rfl⟩
    obtain ⟨k, hk, rfl, hrow, hsh, hlen, hbel⟩ := hrel
    have HO := Lib.hid hrow; clear hrow
    by_cases hlt : k < l.length
    case neg =>
      obtain rfl : k = l.length := by omega
      rw [List.take_length] at HO hsh hlen
      go_wp2_with fail
      go_ret
      exact ⟨_, rfl, HO.out, hbel⟩
    case pos =>
      obtain ⟨b, off, rfl, hb, c0, c1⟩ := HR.out k hlt
      have d0 := bcell hbel hb c0
      have d1 := bcell hbel hb c1
      clear c0 c1
      have hps := hs.at hlt
      obtain ⟨p, hp⟩ : ∃ p, l.getD k default = p := ⟨_, rfl⟩
      rw [hp] at d0 d1 hps
      obtain ⟨px, py⟩ := p
      simp only at d0 d1
      have hnx := halfF_snoc (l.take k) ⟨px, py⟩
      rw [show l.take k ++ [⟨px, py⟩] = l.take (k + 1) by rw [← hp]; exact (List.take_succ_eq_append_getElem hlt).symm ▸ (by rw [List.getD_eq_getElem?_getD, List.getElem?_eq_getElem hlt, Option.getD_some])] at hnx
      have HNX := Lib.hid hnx; clear hnx hp
      go_wp2_with fail
      obtain ⟨wB, hwB⟩ : ∃ x, wE.alloc (.cells #[.int .i64 px, .int .i64 py] 30) = x := ⟨_, rfl⟩
      have hEB : Below wE.heap.size wE wB := by rw [← hwB]; exact (Below.refl _ _).alloc (Nat.le_refl _) _
      have b0 : wB.cell? ⟨wE.heap.size, 0, none⟩ = some (.int .i64 px) := by rw [← hwB]; simp [go_sem]
      have b1 : wB.cell? ⟨wE.heap.size, 1, none⟩ = some (.int .i64 py) := by rw [← hwB]; simp [go_sem]
      have bl : wE.heap.size < wB.heap.size := by rw [← hwB]; simp
      rw [hwB]
      clear hwB d0 d1
      have HOB := Lib.hid (HO.out.below hEB)
      have hbB := ball hbel hEB
      have hzE := hbel.size
      go_loopw [3] (fun v wr => ∃ o : List Pt, RowP wr w.heap.size v o ∧ AllSh o ∧ o.length ≤ k ∧ popF o ⟨px, py⟩ = popF (halfF (l.take k)) ⟨px, py⟩ ∧ Below wB.heap.size wB wr) (fun v _ => lenOf v)
      case atStart => exact ⟨_, HOB.out, hsh, hlen, rfl, Below.refl _ _⟩
      case round =>
        obtain ⟨wF, rfl⟩ : ∃ x : World, x = wr := ⟨_, rfl⟩
        obtain ⟨o, hro, hso, hol, hpo, hbF⟩ := hrel
        obtain ⟨adv, capv, rfl, hc1, hc2⟩ := hro.shape
        have HRO := Lib.hid hro; have HPO := Lib.hid hpo; clear hro hpo
        have e0 := bcell hbF bl b0
        have e1 := bcell hbF bl b1
        obtain ⟨c, hc⟩ : ∃ c, popB o ⟨px, py⟩ = c := ⟨_, rfl⟩
        have HCC := Lib.hid hc; clear hc
        go_upto_region 5 with fail
        go_cut [31] from 12 to 31 (fun s wc => s = .bool c ∧ Below wF.heap.size wF wc)
        case first =>
          by_cases hle : 1 < o.length
          case neg =>
            have g1 : decide ((1 : Int) < (o.length : Int)) = false := decide_eq_false (by omega)
            have g2 : decide (1 < o.length) = false := decide_eq_false hle
            have HLE := Lib.hid hle; clear hle
            go_wp2_with fail
            go_quiet (fail)
            go_wp2_with fail
            go_meet
            exact ⟨by rw [← HCC.out]; unfold popB; rw [decide_eq_false HLE.out, Bool.false_and], bdrewN (Below.refl _ _) nq⟩
          case pos =>
            have g1 : decide ((1 : Int) < (o.length : Int)) = true := decide_eq_true (by omega)
            have g2 : decide (1 < o.length) = true := decide_eq_true hle
            have hrd := HRO.out.rd
            obtain ⟨bo, offo, rfl, hbo⟩ := hrd.some (by omega)
            obtain ⟨i2, hi2⟩ : ∃ i2, o.length = i2 + 2 := ⟨o.length - 2, by omega⟩
            obtain ⟨i1, hi1⟩ : ∃ i1, o.length = i1 + 1 := ⟨o.length - 1, by omega⟩
            obtain ⟨p1, p2⟩ := hrd.at (show i2 < o.length by omega)
            obtain ⟨q1, q2⟩ := hrd.at (show i1 < o.length by omega)
            have s1 := hso.at (show i2 < o.length by omega)
            have s2 := hso.at (show i1 < o.length by omega)
            have f2 : (o.length : Int) - 2 = (i2 : Int) := by omega
            have f1 : (o.length : Int) - 1 = (i1 : Int) := by omega
            have w2 : IntKind.i64.wrap (i2 : Int) = (i2 : Int) := i64_small (by omega) (by omega)
            have w1 : IntKind.i64.wrap (i1 : Int) = (i1 : Int) := i64_small (by omega) (by omega)
            have x1 : (0 : Int) ≤ (i2 : Int) := by omega
            have x2 : (i2 : Int) < (o.length : Int) := by omega
            have x3 : (0 : Int) ≤ (i1 : Int) := by omega
            have x4 : (i1 : Int) < (o.length : Int) := by omega
            have hpop : popB o ⟨px, py⟩ = decide (turnZ (o.getD i2 default) (o.getD i1 default) ⟨px, py⟩ ≤ 0) := by unfold popB; rw [decide_eq_true hle, Bool.true_and, show o.length - 2 = i2 by omega, show o.length - 1 = i1 by omega]
            obtain ⟨pp, hpp⟩ : ∃ x, o.getD i2 default = x := ⟨_, rfl⟩
            obtain ⟨qq, hqq⟩ : ∃ x, o.getD i1 default = x := ⟨_, rfl⟩
            rw [hpp] at p1 p2 s1 hpop
            rw [hqq] at q1 q2 s2 hpop
            have ct := fun w => pyTurn_c pp qq ⟨px, py⟩ w s1.sm s2.sm hps.sm
            generalize turnZ pp qq ⟨px, py⟩ = z at ct hpop
            unfold ptV at ct
            have CT := Lib.hid ct; have HPOP := Lib.hid (HCC.out.symm.trans hpop); clear ct hpop hpp hqq hi1 hi2 s1 s2 hrd hps
            have lE : wE.heap.size < wF.heap.size := Nat.lt_of_lt_of_le bl hbF.size
            go_wp2_with fail
            go_region_held3 (fun w' => ((w'.cell? ⟨bo, offo + i2 * 2, none⟩ = some (.int .i64 pp.x) ∧ w'.cell? ⟨bo, offo + i2 * 2 + 1, none⟩ = some (.int .i64 pp.y)) ∧ w'.cell? ⟨bo, offo + i1 * 2, none⟩ = some (.int .i64 qq.x) ∧ w'.cell? ⟨bo, offo + i1 * 2 + 1, none⟩ = some (.int .i64 qq.y)) ∧ w'.cell? ⟨wE.heap.size, 0, none⟩ = some (.int .i64 px) ∧ w'.cell? ⟨wE.heap.size, 1, none⟩ = some (.int .i64 py)) (exact ⟨⟨⟨by assumption, by assumption⟩, by assumption, by assumption⟩, by assumption, by assumption⟩)
              (first
                | (go_at_call 77; (with_reducible refine (CT.out _).mono ?_); rintro e W1 ⟨rfl, hw1⟩; have m1 := bcell hw1 hbo p1; have m2 := bcell hw1 hbo p2; have m3 := bcell hw1 hbo q1; have m4 := bcell hw1 hbo q2; have m5 := bcell hw1 lE e0; have m6 := bcell hw1 lE e1))
            go_wp2_with fail
            go_meet
            exact ⟨by rw [HPOP.out], (Below.refl _ _).drew.trans hw1⟩
        case rest =>
          obtain ⟨rfl, hbc⟩ := hcut
          obtain ⟨wG, rfl⟩ : ∃ x : World, x = wc := ⟨_, rfl⟩
          have HRG := Lib.hid (HRO.out.below hbc)
          have hbG := ball hbF hbc
          have e2 := bcell hbc (Nat.lt_of_lt_of_le bl hbF.size) e0
          have e3 := bcell hbc (Nat.lt_of_lt_of_le bl hbF.size) e1
          clear hbc e0 e1
          cases c
          case true =>
            have h1 : 1 < o.length := by have := HCC.out; unfold popB at this; simp at this; omega
            have hdr := HRG.out.drop (by omega)
            obtain ⟨m, hm⟩ : ∃ m, o.length = m + 1 := ⟨o.length - 1, by omega⟩
            have hdl : o.dropLast.length = m := by rw [List.length_dropLast]; omega
            rw [show o.length - 1 = m by omega] at hdr
            have HDR := Lib.hid hdr; have HDL := Lib.hid hdl; clear hdr hdl
            have en : (o.length : Int) - 1 = (m : Int) := by omega
            have wn : IntKind.i64.wrap (m : Int) = (m : Int) := i64_small (by omega) (by omega)
            have mc : m ≤ capv := by omega
            have mn : m < o.length := by omega
            clear hm
            go_wp2_with fail
            go_roundw
            case rel => first | exact ⟨o.dropLast, HDR.out, hso.drop, by rw [HDL.out]; omega, by rw [← popF_go HCC.out]; exact HPO.out, hbG⟩ | ((repeat apply Exists.intro); exact ⟨⟨o.dropLast, HDR.out, hso.drop, by rw [HDL.out]; omega, by rw [← popF_go HCC.out]; exact HPO.out, hbG⟩, rfl⟩)
            case measure => simp [lenOf]; omega
          case false =>
            have HEQ := Lib.hid (show halfF (l.take (k + 1)) = o ++ [⟨px, py⟩] by rw [HNX.out, ← HPO.out, popF_stop HCC.out])
            clear HCC
            have hbw := ball hbB hbG
            have hszG := hbw.size
            go_wp2_with (at_builtin; refine wpList_append_lies _ rfl _ _ 23 rfl w.heap.size 30 iP _ 2 16 Tryz.underlyingP hiP hzP hsP hbP rfl (by omega) (.slice adv o.length capv) o.length (ptsV o) rfl (HRG.out.alloc _) ⟨wG.heap.size, 0, none⟩ 1 1 [.int .i64 px, .int .i64 py] rfl rfl (World.news_of_block (cs := #[.int .i64 px, .int .i64 py]) (t := 30) (fr := (0, 0)) (heap_alloc_new _ _)) (by simp [Value.oneCell']) (by omega) (by unfold maxLen; omega) (by omega) (by simp; omega) (wG.heap.size + 1) (by simp) ?_; intro g5 cap5 wm hown hgrow hat hlt5; clear hat)
            have hbm := appP_below hbw hszG HRG.out hgrow
            go_roundw
            case rel => first | exact ⟨k + 1, by omega, by go_num, by rw [HEQ.out]; exact rowP_congr hown (by simp) (ptsV_snoc o ⟨px, py⟩).symm, by rw [HEQ.out]; exact hso.snoc hps, by rw [HEQ.out]; simp; omega, hbm⟩ | ((repeat apply Exists.intro); exact ⟨⟨k + 1, by omega, by go_num, by rw [HEQ.out]; exact rowP_congr hown (by simp) (ptsV_snoc o ⟨px, py⟩).symm, by rw [HEQ.out]; exact hso.snoc hps, by rw [HEQ.out]; simp; omega, hbm⟩, rfl⟩)
            case measure => simp [intOf]; omega

end Go.Proofs.YtnapcjfemlhkmaaGreatDoor

/-
  The boundary's points and the double area of a polygon: program and reference. By an AI agent.
-/
namespace Go.Proofs.YtnapcjfemlhkmaaGreatDoor
open Go.RowKit

def nextP (l : List Pt) (i : Nat) : Pt := l.getD ((i + 1) % l.length) default
def edgeP (l : List Pt) (i : Nat) : Pt := subP (nextP l i) (l.getD i default)
def gP (p : Pt) : Int := gcdN p.x p.y
def gsum (L : List Pt) : Int := (L.map gP).sum
def areaTo (l : List Pt) : Nat → Int
  | 0 => 0
  | n + 1 => areaTo l n + crossZ (l.getD n default) (nextP l n)
def areaP (l : List Pt) : Int := areaTo l l.length
def edgesP (l : List Pt) : List Pt := tab l.length (edgeP l)
/-- The edges of the reference: those that lead on. -/
def pyEd (l : List Pt) : Nat → List Pt
  | 0 => []
  | n + 1 => if l.getD n default = nextP l n then pyEd l n else pyEd l n ++ [edgeP l n]
def bndP (l : List Pt) : Int := if l.length = 1 then 1 else if l.length = 2 then gP (edgeP l 0) + 1 else gsum (edgesP l)
theorem gsum_snoc (L : List Pt) (p : Pt) : gsum (L ++ [p]) = gsum L + gP p := by simp [gsum]
theorem take_snoc2 (l : List Pt) (k : Nat) (h : k < l.length) : l.take (k + 1) = l.take k ++ [l.getD k default] := by
  rw [List.take_succ_eq_append_getElem h, List.getD_eq_getElem?_getD, List.getElem?_eq_getElem h, Option.getD_some]
theorem pyEd_len (l : List Pt) : ∀ n, (pyEd l n).length ≤ n
  | 0 => by simp [pyEd]
  | n + 1 => by
    have := pyEd_len l n
    unfold pyEd
    split
    · omega
    · simp; omega
theorem gsum_pyEd (l : List Pt) : ∀ n, gsum (pyEd l n) = gsum (tab n (edgeP l))
  | 0 => by simp [pyEd, tab]
  | n + 1 => by
    rw [tab_succ, gsum_snoc, ← gsum_pyEd l n, pyEd]
    split
    · rename_i h
      have : gP (edgeP l n) = 0 := by
        unfold gP edgeP gcdN subP
        rw [← h]; simp
      omega
    · rw [gsum_snoc]
theorem nextP_two {l : List Pt} (h : l.length = 2) : edgeP l 0 = subP (l.getD 1 default) (l.getD 0 default) ∧ edgeP l 1 = subP (l.getD 0 default) (l.getD 1 default) := by
  unfold edgeP nextP
  rw [h]
  exact ⟨rfl, rfl⟩
theorem gP_sub (p q : Pt) : gP (subP p q) = gP (subP q p) := by
  unfold gP subP gcdN
  simp only
  rw [show p.x - q.x = -(q.x - p.x) by omega, show p.y - q.y = -(q.y - p.y) by omega, Int.neg_gcd, Int.gcd_neg]
theorem bnd_py (l : List Pt) : (if l.length = 1 then 1 else if l.length = 2 then (gsum (pyEd l l.length)).tdiv 2 + 1 else gsum (pyEd l l.length)) = bndP l := by
  unfold bndP
  rw [gsum_pyEd]
  split
  · rfl
  · split
    · rename_i h2
      obtain ⟨e0, e1⟩ := nextP_two h2
      have : gsum (tab l.length (edgeP l)) = 2 * gP (edgeP l 0) := by
        rw [h2, show tab 2 (edgeP l) = [edgeP l 0, edgeP l 1] from rfl]
        simp only [gsum, List.map_cons, List.map_nil, List.sum_cons, List.sum_nil]
        rw [e1, gP_sub, ← e0]; omega
      rw [this]
      have : (2 * gP (edgeP l 0)).tdiv 2 = gP (edgeP l 0) := by rw [Int.mul_tdiv_cancel_left _ (by decide)]
      rw [this]
    · rfl

/-- What is small on the way. -/
theorem gP_b {p : Pt} (h : Sm p) : 0 ≤ gP p ∧ gP p ≤ 2000000 := by
  obtain ⟨h1, h2, h3, h4⟩ := h
  unfold gP gcdN
  by_cases hx : p.x = 0
  · rw [hx, Int.gcd_zero_left]; omega
  · have : (Int.gcd p.x p.y) ≤ p.x.natAbs := Nat.le_of_dvd (by omega) (Nat.gcd_dvd_left _ _)
    omega
theorem gsum_b {L : List Pt} (h : ∀ p ∈ L, Sm p) : 0 ≤ gsum L ∧ gsum L ≤ 2000000 * L.length := by
  induction L with
  | nil => simp [gsum]
  | cons p L ih =>
    have h1 := ih (fun q hq => h q (by simp [hq]))
    have h2 := gP_b (h p (by simp))
    simp [gsum] at h1 ⊢
    omega
theorem nextP_sh {l : List Pt} (hs : AllSh l) {i : Nat} (h : 0 < l.length) : Sh (nextP l i) := hs.at (Nat.mod_lt _ h)
theorem edgeP_sm {l : List Pt} (hs : AllSh l) {i : Nat} (hi : i < l.length) : Sm (edgeP l i) := (nextP_sh hs (by omega)).sub (hs.at hi)
theorem edgesP_sm {l : List Pt} (hs : AllSh l) : ∀ p ∈ edgesP l, Sm p := fun p hp => by
  unfold edgesP tab at hp
  obtain ⟨i, hi, rfl⟩ := List.mem_map.1 hp
  exact edgeP_sm hs (by simpa using hi)
theorem pyEd_sm {l : List Pt} (hs : AllSh l) : ∀ n, n ≤ l.length → ∀ p ∈ pyEd l n, Sm p
  | 0, _, p, hp => by simp [pyEd] at hp
  | n + 1, hn, p, hp => by
    unfold pyEd at hp
    split at hp
    · exact pyEd_sm hs n (by omega) p hp
    · rcases List.mem_append.1 hp with h | h
      · exact pyEd_sm hs n (by omega) p h
      · simp at h; subst h; exact edgeP_sm hs (by omega)
theorem crossZ_b {p q : Pt} (hp : Sh p) (hq : Sh q) : -1000000000000 ≤ crossZ p q ∧ crossZ p q ≤ 1000000000000 := by
  obtain ⟨h1, h2, h3, h4⟩ := hp
  obtain ⟨k1, k2, k3, k4⟩ := hq
  have m1 := mulb (K := 500000) (M := 500000) (by omega) (And.intro h1 h2) (And.intro k3 k4)
  have m2 := mulb (K := 500000) (M := 500000) (by omega) (And.intro h3 h4) (And.intro k1 k2)
  unfold crossZ
  omega
theorem areaTo_b {l : List Pt} (hs : AllSh l) : ∀ n, n ≤ l.length → -(1000000000000 * n) ≤ areaTo l n ∧ areaTo l n ≤ 1000000000000 * n
  | 0, _ => by simp [areaTo]
  | n + 1, hn => by
    have h1 := areaTo_b hs n (by omega)
    have h2 := crossZ_b (hs.at (show n < l.length by omega)) (nextP_sh hs (i := n) (by omega))
    simp only [areaTo]
    omega

set_option maxHeartbeats 800000 in
theorem nextI_c (ad : Option Addr) (cap : Nat) (l : List Pt) (i : Nat) (w : World) (hr : RdP w ad l) (hl : l.length ≤ 100000) (hi : i < l.length) :
    Calls Tryz.prog 34 #[.slice ad l.length cap, .int .i64 i] w fun e w' => e = .returned (ptV (nextP l i)) ∧ Below w.heap.size w w' := by
  have hrem := rem_next (i := i) (n := l.length)
  have hjl : (i + 1) % l.length < l.length := Nat.mod_lt _ (by omega)
  unfold nextP
  generalize (i + 1) % l.length = j at hrem hjl ⊢
  obtain ⟨b, off, rfl, hb, c0, c1⟩ := hr j hjl
  generalize l.getD j default = p at c0 c1 ⊢
  obtain ⟨px, py⟩ := p
  have e1 : IntKind.i64.wrap ((i : Int) + 1) = (i : Int) + 1 := i64_small (by omega) (by omega)
  have z : ((l.length : Int) == 0) = false := beq_eq_false_iff_ne.2 (by omega)
  have wj : IntKind.i64.wrap (j : Int) = (j : Int) := i64_small (by omega) (by omega)
  have x1 : (0 : Int) ≤ (j : Int) := by omega
  have x2 : (j : Int) < (l.length : Int) := by omega
  unfold ptV
  go_enter Tryz.func34, Tryz.ntmps34
  go_wp2_with fail
  exact bodyPost_ret (v := .agg #[.int .i64 px, .int .i64 py]) (by simp [results, Tryz.results34, go_sem]) rfl ⟨rfl, (Below.refl _ _).alloc (Nat.le_refl _) _⟩

end Go.Proofs.YtnapcjfemlhkmaaGreatDoor

/-
  append of points at a step of a region that draws its order. By an AI agent.
-/
namespace Go.Proofs.YtnapcjfemlhkmaaGreatDoor
open Go.RowKit

theorem RdP.news {w : World} {b off : Nat} {l : List Pt} (h : RdP w (Option.some ⟨b, off, none⟩) l) : ∀ j u, (ptsV l)[j]? = Option.some u → w.cell? ((⟨b, off, none⟩ : Addr).add j) = Option.some u := fun j u hu => by
  have hj : j < l.length * 2 := by
    have := (List.getElem?_eq_some_iff.1 hu).1
    rwa [ptsV_length] at this
  obtain ⟨c0, c1⟩ := h.at (show j / 2 < l.length by omega)
  obtain ⟨v0, v1⟩ := ptsV_get (show j / 2 < l.length by omega)
  have ea : (⟨b, off, none⟩ : Addr).add j = ⟨b, off + j, none⟩ := by unfold Addr.add; split <;> simp [*]
  rw [ea]
  by_cases hp : j % 2 = 0
  · have : j = j / 2 * 2 := by omega
    rw [this] at hu ⊢
    rw [v0] at hu
    rw [c0]; exact hu
  · have : j = j / 2 * 2 + 1 := by omega
    rw [this] at hu ⊢
    rw [v1] at hu
    rw [← Nat.add_assoc, c1]; exact hu
theorem ptsV_one (l : List Pt) : ∀ u ∈ ptsV l, u.oneCell' = true := fun u hu => by
  unfold ptsV at hu
  obtain ⟨p, _, hp⟩ := List.mem_flatMap.1 hu
  simp at hp
  rcases hp with h | h <;> subst h <;> rfl

/-- What is appended: nothing, or a row that is read. -/
def ReadsP (w : World) (X : Value) (l : List Pt) : Prop := (X = .slice none 0 0 ∧ l = []) ∨ ∃ b off c, X = .slice (some ⟨b, off, none⟩) l.length c ∧ RdP w (some ⟨b, off, none⟩) l
theorem ReadsP.below {w w' : World} {X : Value} {l : List Pt} (h : ReadsP w X l) (hb : Below w.heap.size w w') : ReadsP w' X l := by
  rcases h with h | ⟨b, off, c, h1, h2⟩
  · exact Or.inl h
  · exact Or.inr ⟨b, off, c, h1, h2.below hb⟩
/-- append at a step of a region that draws its order, whatever is appended. -/
theorem step_app {w : World} {ops : Array Oper} {o : Oper} {a : Act} {K : Act → World → Prop} {Q : Exit → Act → World → Prop} {E : Prop} (hgd : o.guard = none) (s x : Operand)
    (ho : o.op = .call { callee := .builtin .append, args := #[s, x], argTypes := #[23, 23] })
    (B : Nat) (v X : Value) (l m : List Pt) (hs : a.eval s = v) (hx : a.eval x = X) (hown : RowP w B v l) (hX : ReadsP w X m) (hl : l.length ≤ 100000) (hm : m.length ≤ 100000) (hB : B ≤ w.heap.size)
    (h : ∀ v' w', RowP w' B v' (l ++ m) → Below B w w' → w.grownBy w' v.ownBlock → K (a.put o.dst v') w') :
    if Region.wanted o (yielded ops a.tmps) = true then Oper.wp Tryz.prog o a w K Q else E := by
  have hw : Region.wanted o (yielded ops a.tmps) = true := by simp [Region.wanted, hgd]
  rw [if_pos hw]
  obtain ⟨iP, hiP, hzP, hsP, hbP⟩ := info_parts Tryz.infoP
  rcases hX with ⟨rfl, rfl⟩ | ⟨b, off, c, rfl, hrd⟩
  · have hr := run_append_owned_none (P := Tryz.prog) w B 23 o.type 30 iP 2 Tryz.underlyingP hiP v l.length (ptsV l) hown
    unfold Oper.wp execOp
    simp only [ho, resolve, invoke, builtin, Sem.run_bind, Sem.run_pure, Result.andThen_ok, List.map_toArray, List.map_cons, List.map_nil, hs, hx, hr]
    exact h v w (by rw [List.append_nil]; exact hown) (Below.refl _ _) ⟨rfl, rfl, rfl, Nat.le_refl _, fun _ _ _ => rfl⟩
  · obtain ⟨v', w', hr, h2, h3, _, _⟩ := run_append_own_at (P := Tryz.prog) w B 23 o.type 30 iP _ 2 16 Tryz.underlyingP hiP hzP hsP hbP rfl (by omega) v l.length (ptsV l) hown ⟨b, off, none⟩ m.length c (ptsV m) (ptsV_length m) hrd.news (ptsV_one m) (by unfold maxLen; omega) (by omega) hB
    unfold Oper.wp execOp
    simp only [ho, resolve, invoke, builtin, Sem.run_bind, Sem.run_pure, Result.andThen_ok, List.map_toArray, List.map_cons, List.map_nil, hs, hx, hr]
    exact h v' w' (rowP_congr h2 (by simp) (ptsV_append l m).symm) ((Below.refl _ _).grown h3 hB (fun q e => (hown.lt q e).1)) h3
theorem rowP_new (u : World) (B H : Nat) (hB : B ≤ u.heap.size) (hH : u.heap.size = H) : RowP (u.alloc (.cells #[] 30)) B (.slice (some ⟨H, 0, none⟩) 0 0) [] := by
  subst hH
  exact World.ownsRow_made u #[] 0 hB (by decide) rfl
theorem readsP_one (u : World) (H : Nat) (x y : Int) (hH : u.heap.size = H) : ReadsP (u.alloc (.cells #[.int .i64 x, .int .i64 y] 30)) (.slice (some ⟨H, 0, none⟩) 1 1) [⟨x, y⟩] := by
  subst hH
  refine Or.inr ⟨_, _, 1, rfl, fun j hj => ?_⟩
  obtain rfl : j = 0 := by simpa using hj
  exact ⟨_, _, rfl, by simp, by simp [go_sem], by simp [go_sem]⟩

theorem readsP_nil (w : World) : ReadsP w (.slice none 0 0) [] := Or.inl ⟨rfl, rfl⟩
theorem ReadsP.alloc' {w : World} {X : Value} {l : List Pt} {o : Obj} (h : ReadsP w X l) : ReadsP (w.alloc o) X l := h.below ((Below.refl _ _).alloc (Nat.le_refl _) _)
theorem ReadsP.drew' {w : World} {X : Value} {l : List Pt} (h : ReadsP w X l) : ReadsP w.drew X l := h.below (Below.refl _ _).drew
theorem RowP.alloc' {w : World} {B : Nat} {v : Value} {l : List Pt} {o : Obj} (h : RowP w B v l) : RowP (w.alloc o) B v l := h.below ((Below.refl _ _).alloc (Nat.le_refl _) _)
theorem RowP.drew' {w : World} {B : Nat} {v : Value} {l : List Pt} (h : RowP w B v l) : RowP w.drew B v l := h.below (Below.refl _ _).drew
theorem ReadsP.grown {w w' : World} {row : Option Nat} {H : Nat} {x : List Pt} (h : ReadsP w (.slice (some ⟨H, 0, none⟩) 1 1) x) (hg : w.grownBy w' row) (hne : some H ≠ row) : ReadsP w' (.slice (some ⟨H, 0, none⟩) 1 1) x := by
  rcases h with ⟨h, _⟩ | ⟨b, off, c, h1, h2⟩
  · cases h
  · refine Or.inr ⟨b, off, c, h1, fun j hj => ?_⟩
    injection h1 with h1 _ _
    injection h1 with h1
    injection h1 with h1 h1' _
    subst h1; subst h1'
    obtain ⟨b', off', e, hl, c0, c1⟩ := h2 j hj
    cases e
    exact ⟨_, _, rfl, Nat.lt_of_lt_of_le hl hg.size, by rw [World.grownBy.cell_far hg _ hl hne]; exact c0, by rw [World.grownBy.cell_far hg _ hl hne]; exact c1⟩
theorem RowP.mono {w : World} {B B' : Nat} {v : Value} {l : List Pt} (h : RowP w B v l) (hB : B' ≤ B) : RowP w B' v l := by
  refine ⟨h.1, ?_⟩
  rcases h.2 with hn | ⟨g, cap, cur, rfl, hb, hgg, rest⟩
  · exact .inl hn
  · exact .inr ⟨g, cap, cur, rfl, Nat.le_trans hB hb, hgg, rest⟩
theorem RdP.takeDrop {w : World} {b off : Nat} {l : List Pt} (h : RdP w (Option.some ⟨b, off, none⟩) l) (k : Nat) : RdP w (Option.some ⟨b, off, none⟩) (l.take k) ∧ RdP w (Option.some ⟨b, off + k * 2, none⟩) (l.drop k) := by
  refine ⟨fun j hj => ?_, fun j hj => ?_⟩
  · have hj' : j < k ∧ j < l.length := by rw [List.length_take] at hj; omega
    obtain ⟨b', off', e, hl, c0, c1⟩ := h j hj'.2
    have e' : (l.take k).getD j default = l.getD j default := by simp [List.getD_eq_getElem?_getD, hj'.1]
    exact ⟨b', off', e, hl, by rw [e']; exact c0, by rw [e']; exact c1⟩
  · have hj' : k + j < l.length := by rw [List.length_drop] at hj; omega
    obtain ⟨b', off', e, hl, c0, c1⟩ := h (k + j) hj'
    have e' : (l.drop k).getD j default = l.getD (k + j) default := by simp [List.getD_eq_getElem?_getD]
    cases e
    exact ⟨b, off + k * 2, rfl, hl, by rw [e', show off + k * 2 + j * 2 = off + (k + j) * 2 by omega]; exact c0, by rw [e', show off + k * 2 + j * 2 + 1 = off + (k + j) * 2 + 1 by omega]; exact c1⟩
theorem ptEq_ne {o : List Pt} {k : Nat} {a b c d : Int} (h : o.getD k default = ⟨a, b⟩) (hne : ¬ (a = c ∧ b = d)) : ¬ o.getD k default = ⟨c, d⟩ := by
  rw [h]; intro e; injection e with e1 e2; exact hne ⟨e1, e2⟩

end Go.Proofs.YtnapcjfemlhkmaaGreatDoor

/-
  The edges of a polygon and the sum of their divisors: program and reference. By an AI agent.
-/
namespace Go.Proofs.YtnapcjfemlhkmaaGreatDoor
open Go.RowKit

set_option maxRecDepth 4000 in
set_option maxHeartbeats 1600000 in
theorem edges_c (ad : Option Addr) (cap : Nat) (l : List Pt) (w : World) (hr : RdP w ad l) (hl : l.length ≤ 50000) (h1 : l.length ≠ 1) (hs : AllSh l) :
    Calls Tryz.prog 35 #[.slice ad l.length cap] w fun e w' => ∃ v, e = .returned v ∧ RowP w' w.heap.size v (edgesP l) ∧ Below w.heap.size w w' := by
  have HR := Lib.hid hr; clear hr
  have e1 : ((l.length : Int) == 1) = false := beq_eq_false_iff_ne.2 (by omega)
  unfold edgesP
  go_enter Tryz.func35, Tryz.ntmps35
  go_wp2_with fail
  go_loopw [3, 13] (fun v i wr => ∃ k : Nat, k ≤ l.length ∧ i = .int .i64 k ∧ RowP wr w.heap.size v (tab k (edgeP l)) ∧ Below w.heap.size w wr) (fun _ i _ => l.length - (intOf i).toNat)
  case atStart => exact ⟨0, Nat.zero_le _, rfl, rowP_empty w, (Below.refl _ _).alloc (Nat.le_refl _) _⟩
  case round =>
    obtain ⟨wE, rfl⟩ : ∃ x : World, x = wr := ⟨_, rfl⟩
    obtain ⟨k, hk, rfl, hrow, hbel⟩ := hrel
    have HO := Lib.hid hrow; clear hrow
    by_cases hlt : k < l.length
    case neg =>
      obtain rfl : k = l.length := by omega
      go_wp2_with fail
      go_ret
      exact ⟨_, rfl, HO.out, hbel⟩
    case pos =>
      obtain ⟨b, off, rfl, hb, c0, c1⟩ := HR.out k hlt
      have d0 := bcell hbel hb c0
      have d1 := bcell hbel hb c1
      clear c0 c1
      have hst := tab_succ k (edgeP l)
      rw [show edgeP l k = subP (nextP l k) (l.getD k default) from rfl] at hst
      have htl := Lib.hid (tab_length k (edgeP l))
      have cn := fun w h => nextI_c (some ⟨b, off, none⟩) cap l k w h (by omega) hlt
      have cc := fun w => minus_c (nextP l k) (l.getD k default) w (nextP_sh hs (i := k) (by omega)).sm (hs.at hlt).sm
      generalize subP (nextP l k) (l.getD k default) = z at hst cc
      generalize nextP l k = q at cn cc
      generalize l.getD k default = p at d0 d1 cc
      obtain ⟨o, ho⟩ : ∃ o, tab k (edgeP l) = o := ⟨_, rfl⟩
      rw [ho] at HO hst htl
      obtain ⟨px, py⟩ := p
      obtain ⟨qx, qy⟩ := q
      obtain ⟨zx, zy⟩ := z
      unfold ptV at cn cc
      simp only at d0 d1 cn cc
      have HST := Lib.hid hst; have CN := Lib.hid cn; have CC := Lib.hid cc; clear hst cn cc ho
      obtain ⟨adv, capv, rfl, hc1, hc2⟩ := HO.out.shape
      go_wp2_with fail
      obtain ⟨wB, hwB⟩ : ∃ x, wE.alloc (.cells #[.int .i64 px, .int .i64 py] 30) = x := ⟨_, rfl⟩
      have hEB : Below wE.heap.size wE wB := by rw [← hwB]; exact (Below.refl _ _).alloc (Nat.le_refl _) _
      have b0 : wB.cell? ⟨wE.heap.size, 0, none⟩ = some (.int .i64 px) := by rw [← hwB]; simp [go_sem]
      have b1 : wB.cell? ⟨wE.heap.size, 1, none⟩ = some (.int .i64 py) := by rw [← hwB]; simp [go_sem]
      have bl : wE.heap.size < wB.heap.size := by rw [← hwB]; simp
      rw [hwB]
      clear hwB d0 d1
      have hbB := (ball hbel hEB).trans (Below.refl w.heap.size _).drew
      have HRB := Lib.hid (HR.out.below (hbB))
      have HOB := Lib.hid ((HO.out.below hEB).below (Below.refl _ _).drew)
      go_region_held3 (fun w' => w'.cell? ⟨wE.heap.size, 0, none⟩ = some (.int .i64 px) ∧ w'.cell? ⟨wE.heap.size, 1, none⟩ = some (.int .i64 py)) (first | exact ⟨by assumption, by assumption⟩ | exact ⟨bcell ((Below.refl _ _).alloc (Nat.le_refl _) _) lW2 m3, bcell ((Below.refl _ _).alloc (Nat.le_refl _) _) lW2 m4⟩)
        (first
          | (go_at_call 34; (with_reducible refine (CN.out _ HRB.out).mono ?_); rintro e W1 ⟨rfl, hw1⟩; have m1 := bcell hw1 bl b0; have m2 := bcell hw1 bl b1; have n1 := hw1.size)
          | (go_at_call 31; (with_reducible refine (CC.out _).mono ?_); rintro e W2 ⟨rfl, hw2⟩; have m3 := bcell hw2 (Nat.lt_of_lt_of_le bl n1) m1; have m4 := bcell hw2 (Nat.lt_of_lt_of_le bl n1) m2; have n2 := hw2.size; have lW2 := Nat.lt_of_lt_of_le (Nat.lt_of_lt_of_le bl n1) n2; have hbW := ball (ball hbB hw1) hw2; have HO2 := Lib.hid ((HOB.out.below hw1).below hw2); have nB := hbW.size)
          | (refine step_app (by rfl) _ _ (by rfl) w.heap.size (.slice adv o.length capv) (.slice (some ⟨_, 0, none⟩) 1 1) _ [⟨zx, zy⟩] (by rfl) (by rfl) (by (with_reducible repeat (first | exact HO2.out | apply RowP.alloc' | apply RowP.drew'))) (by (with_reducible repeat (first | exact readsP_one _ _ _ _ (by simp) | apply ReadsP.alloc' | apply ReadsP.drew'))) (by have := htl.out; omega) (by simp) (by first | exact nB | ((try simp) <;> omega)) ?_; intro v3 w3 hown3 hb3 hg3; have m5 := (World.grownBy.cell_far hg3 ⟨wE.heap.size, 0, none⟩ (Nat.lt_of_lt_of_le lW2 (by simp)) (fun e => Nat.lt_irrefl _ (HO.out.lt _ e.symm).2)).trans (bcell ((Below.refl _ _).alloc (Nat.le_refl _) _) lW2 m3); have m6 := (World.grownBy.cell_far hg3 ⟨wE.heap.size, 1, none⟩ (Nat.lt_of_lt_of_le lW2 (by simp)) (fun e => Nat.lt_irrefl _ (HO.out.lt _ e.symm).2)).trans (bcell ((Below.refl _ _).alloc (Nat.le_refl _) _) lW2 m4)))
      go_wp2_with fail
      go_roundw
      case rel => exact ⟨k + 1, by omega, by go_num, by rw [HST.out]; exact hown3, (hbW.alloc nB _).trans hb3⟩
      case measure => simp [intOf]; omega

end Go.Proofs.YtnapcjfemlhkmaaGreatDoor

/-
  How many points lie on the boundary: program and reference. By an AI agent.
-/
namespace Go.Proofs.YtnapcjfemlhkmaaGreatDoor
open Go.RowKit

theorem gsum_take {L : List Pt} (hL : ∀ p ∈ L, Sm p) (hl : L.length ≤ 100000) {k : Nat} (h : k < L.length) : gsum (L.take (k + 1)) = gsum (L.take k) + gP (L.getD k default) ∧ Sm (L.getD k default) ∧ 0 ≤ gsum (L.take k) ∧ gsum (L.take k) ≤ 200000000000 ∧ 0 ≤ gP (L.getD k default) ∧ gP (L.getD k default) ≤ 2000000 := by
  have hm : Sm (L.getD k default) := by
    rw [List.getD_eq_getElem?_getD, List.getElem?_eq_getElem h, Option.getD_some]
    exact hL _ (List.getElem_mem _)
  have hb := gsum_b (L := L.take k) (fun p hp => hL p (List.mem_of_mem_take hp))
  have hg := gP_b hm
  rw [List.length_take] at hb
  refine ⟨by rw [take_snoc2 L k h, gsum_snoc], hm, hb.1, ?_, hg.1, hg.2⟩
  omega


set_option maxHeartbeats 1600000 in
theorem pyEdges_c (ad : Option Addr) (cap : Nat) (l : List Pt) (w : World) (hr : RdP w ad l) (hl : l.length ≤ 50000) (hs : AllSh l) :
    Calls Tryz.prog 37 #[.slice ad l.length cap] w fun e w' => ∃ v, e = .returned v ∧ RowP w' w.heap.size v (pyEd l l.length) ∧ Below w.heap.size w w' := by
  have HR := Lib.hid hr; clear hr
  obtain ⟨iP, hiP, hzP, hsP, hbP⟩ := info_parts Tryz.infoP
  go_enter Tryz.func37, Tryz.ntmps37
  go_wp2_with fail
  go_loopw [3, 9] (fun v i wr => ∃ k : Nat, k ≤ l.length ∧ i = .int .i64 k ∧ RowP wr w.heap.size v (pyEd l k) ∧ Below w.heap.size w wr) (fun _ i _ => l.length - (intOf i).toNat)
  case atStart => exact ⟨0, Nat.zero_le _, rfl, RowP.nil _ _, Below.refl _ _⟩
  case round =>
    obtain ⟨wE, rfl⟩ : ∃ x : World, x = wr := ⟨_, rfl⟩
    obtain ⟨k, hk, rfl, hrow, hbel⟩ := hrel
    have HO := Lib.hid hrow; clear hrow
    by_cases hlt : k < l.length
    case neg =>
      obtain rfl : k = l.length := by omega
      go_wp2_with fail
      go_ret
      exact ⟨_, rfl, HO.out, hbel⟩
    case pos =>
      obtain ⟨b, off, rfl, hb, c0, c1⟩ := HR.out k hlt
      have d0 := bcell hbel hb c0
      have d1 := bcell hbel hb c1
      clear c0 c1
      have hsp := hs.at hlt
      have hsq := nextP_sh hs (i := k) (by omega)
      have hol := Lib.hid (pyEd_len l k)
      have hst := show pyEd l (k + 1) = if l.getD k default = nextP l k then pyEd l k else pyEd l k ++ [subP (nextP l k) (l.getD k default)] from rfl
      have hrem := rem_next (i := k) (n := l.length)
      have hjl : (k + 1) % l.length < l.length := Nat.mod_lt _ (by omega)
      unfold nextP at hst hsq
      generalize (k + 1) % l.length = j at hrem hjl hst hsq
      obtain ⟨f0, f1⟩ := HR.out.at hjl
      have g0 := bcell hbel hb f0
      have g1 := bcell hbel hb f1
      clear f0 f1
      generalize l.getD j default = q at g0 g1 hst hsq
      generalize l.getD k default = p at d0 d1 hst hsp
      obtain ⟨o, ho⟩ : ∃ o, pyEd l k = o := ⟨_, rfl⟩
      rw [ho] at HO hst hol
      clear ho
      obtain ⟨px, py⟩ := p
      obtain ⟨qx, qy⟩ := q
      simp only at d0 d1 g0 g1
      obtain ⟨h1, h2, h3, h4⟩ := hsp
      obtain ⟨h5, h6, h7, h8⟩ := hsq
      simp only at h1 h2 h3 h4 h5 h6 h7 h8
      have e1 : IntKind.i64.wrap ((k : Int) + 1) = (k : Int) + 1 := i64_small (by omega) (by omega)
      have zz : ((l.length : Int) == 0) = false := beq_eq_false_iff_ne.2 (by omega)
      have wj : IntKind.i64.wrap (j : Int) = (j : Int) := i64_small (by omega) (by omega)
      have x1 : (0 : Int) ≤ (j : Int) := by omega
      have x2 : (j : Int) < (l.length : Int) := by omega
      have w1 : IntKind.i64.wrap (qx - px) = qx - px := i64_small (by omega) (by omega)
      have w2 : IntKind.i64.wrap (qy - py) = qy - py := i64_small (by omega) (by omega)
      clear h1 h2 h3 h4 h5 h6 h7 h8
      have hz := hbel.size
      have hEB : Below wE.heap.size wE (wE.alloc (.cells #[.int .i64 px, .int .i64 py] 30)) := (Below.refl _ _).alloc (Nat.le_refl _) _
      have g2 := bcell hEB (Nat.lt_of_lt_of_le hb hz) g0
      have g3 := bcell hEB (Nat.lt_of_lt_of_le hb hz) g1
      clear hEB
      obtain ⟨adv, capv, rfl, hc1, hc2⟩ := HO.out.shape
      have hbN := (hbel.alloc hz (.cells #[.int .i64 px, .int .i64 py] 30)).alloc (by simp; omega) (.cells #[.int .i64 qx, .int .i64 qy] 30)
      by_cases hx : px = qx
      · subst hx
        by_cases hy : py = qy
        · subst hy
          rw [if_pos rfl] at hst
          have HST := Lib.hid hst; clear hst
          have HO2 := Lib.hid ((HO.out.alloc' (o := (.cells #[.int .i64 px, .int .i64 py] 30))).alloc' (o := (.cells #[.int .i64 px, .int .i64 py] 30)))
          go_wp2_with fail
          go_roundw
          case rel => exact ⟨k + 1, by omega, by go_num, by rw [HST.out]; exact HO2.out, hbN⟩
          case measure => simp [intOf]; omega
        · rw [if_neg (fun e => hy (by injection e)), show subP ⟨px, qy⟩ ⟨px, py⟩ = ⟨0, qy - py⟩ by simp [subP]] at hst
          have hyb : (py == qy) = false := beq_eq_false_iff_ne.2 hy
          have HST := Lib.hid hst; have HY := Lib.hid hy; clear hst hy
          go_wp2_with (at_builtin; refine wpList_append_lies _ rfl _ _ 23 rfl w.heap.size 30 iP _ 2 16 Tryz.underlyingP hiP hzP hsP hbP rfl (by omega) (.slice adv o.length capv) o.length (ptsV o) rfl (((HO.out.alloc' (o := (.cells #[.int .i64 px, .int .i64 py] 30))).alloc' (o := (.cells #[.int .i64 px, .int .i64 qy] 30))).alloc' (o := (.cells #[.int .i64 0, .int .i64 (qy - py)] 30))) ⟨wE.heap.size + 1 + 1, 0, none⟩ 1 1 [.int .i64 0, .int .i64 (qy - py)] rfl rfl (World.news_of_block (cs := #[.int .i64 0, .int .i64 (qy - py)]) (t := 30) (fr := (0, 0)) (heap_alloc_at _ _ (by simp))) (by simp [Value.oneCell']) (by omega) (by have := hol.out; unfold maxLen; omega) (by have := hol.out; omega) (by simp; omega) (wE.heap.size + 1 + 1 + 1) (by simp) ?_; intro g5 cap5 wm hown hgrow hat hlt5; clear hat)
          have hbm := appP_below (hbN) (Nat.le_trans hz (by simp; omega)) ((HO.out.alloc' (o := (.cells #[.int .i64 px, .int .i64 py] 30))).alloc' (o := (.cells #[.int .i64 px, .int .i64 qy] 30))) hgrow
          go_roundw
          case rel => exact ⟨k + 1, by omega, by go_num, by rw [HST.out]; exact rowP_congr hown (by simp) (ptsV_snoc o ⟨0, (qy - py)⟩).symm, hbm⟩
          case measure => simp [intOf]; omega
      · rw [if_neg (fun e => hx (by injection e))] at hst
        have hxb : (px == qx) = false := beq_eq_false_iff_ne.2 hx
        have HST := Lib.hid hst; have HX := Lib.hid hx; clear hst hx
        go_wp2_with (at_builtin; refine wpList_append_lies _ rfl _ _ 23 rfl w.heap.size 30 iP _ 2 16 Tryz.underlyingP hiP hzP hsP hbP rfl (by omega) (.slice adv o.length capv) o.length (ptsV o) rfl (((HO.out.alloc' (o := (.cells #[.int .i64 px, .int .i64 py] 30))).alloc' (o := (.cells #[.int .i64 qx, .int .i64 qy] 30))).alloc' (o := (.cells #[.int .i64 (qx - px), .int .i64 (qy - py)] 30))) ⟨wE.heap.size + 1 + 1, 0, none⟩ 1 1 [.int .i64 (qx - px), .int .i64 (qy - py)] rfl rfl (World.news_of_block (cs := #[.int .i64 (qx - px), .int .i64 (qy - py)]) (t := 30) (fr := (0, 0)) (heap_alloc_at _ _ (by simp))) (by simp [Value.oneCell']) (by omega) (by have := hol.out; unfold maxLen; omega) (by have := hol.out; omega) (by simp; omega) (wE.heap.size + 1 + 1 + 1) (by simp) ?_; intro g5 cap5 wm hown hgrow hat hlt5; clear hat)
        have hbm := appP_below (hbN) (Nat.le_trans hz (by simp; omega)) ((HO.out.alloc' (o := (.cells #[.int .i64 px, .int .i64 py] 30))).alloc' (o := (.cells #[.int .i64 qx, .int .i64 qy] 30))) hgrow
        go_roundw
        case rel => exact ⟨k + 1, by omega, by go_num, by rw [HST.out]; exact rowP_congr hown (by simp) (ptsV_snoc o ⟨(qx - px), (qy - py)⟩).symm, hbm⟩
        case measure => simp [intOf]; omega

end Go.Proofs.YtnapcjfemlhkmaaGreatDoor

/-
  append of points in a plain region, and cells of rows of points. By an AI agent.
-/
namespace Go.Proofs.YtnapcjfemlhkmaaGreatDoor
open Go.RowKit

/-- append of points in the list of a plain region. -/
theorem wpList_appP {w : World} {ops : Array Oper} {rest : List Oper} {o : Oper} {a : Act} {Q : Exit → Act → World → Prop} (hgd : o.guard = none) (s x : Operand)
    (ho : o.op = .call { callee := .builtin .append, args := #[s, x], argTypes := #[23, 23] })
    (B b off c : Nat) (v : Value) (l m : List Pt) (hs : a.eval s = v) (hx : a.eval x = .slice (some ⟨b, off, none⟩) m.length c) (hown : RowP w B v l) (hrd : RdP w (some ⟨b, off, none⟩) m) (hl : l.length ≤ 100000) (hm : m.length ≤ 100000) (hB : B ≤ w.heap.size)
    (h : ∀ v' w', RowP w' B v' (l ++ m) → Below B w w' → wpList Tryz.prog ops Q rest (a.put o.dst v') w') : wpList Tryz.prog ops Q (o :: rest) a w := by
  refine wpList_plain hgd fun _ hK => ?_
  obtain ⟨iP, hiP, hzP, hsP, hbP⟩ := info_parts Tryz.infoP
  obtain ⟨v', w', hr, h2, h3, _, _⟩ := run_append_own_at (P := Tryz.prog) w B 23 o.type 30 iP _ 2 16 Tryz.underlyingP hiP hzP hsP hbP rfl (by omega) v l.length (ptsV l) hown ⟨b, off, none⟩ m.length c (ptsV m) (ptsV_length m) hrd.news (ptsV_one m) (by unfold maxLen; omega) (by omega) hB
  unfold Oper.wp execOp
  simp only [ho, resolve, invoke, builtin, Sem.run_bind, Sem.run_pure, Result.andThen_ok, List.map_toArray, List.map_cons, List.map_nil, hs, hx, hr]
  exact hK _ _ (h v' w' (rowP_congr h2 (by simp) (ptsV_append l m).symm) ((Below.refl _ _).grown h3 hB (fun q e => (hown.lt q e).1)))
/-- The same, with the size of what is behind. -/
theorem wpList_appQ {w : World} {ops : Array Oper} {rest : List Oper} {o : Oper} {a : Act} {Q : Exit → Act → World → Prop} (hgd : o.guard = none) (s x : Operand)
    (ho : o.op = .call { callee := .builtin .append, args := #[s, x], argTypes := #[23, 23] })
    (B b off c : Nat) (v : Value) (l m : List Pt) (hs : a.eval s = v) (hx : a.eval x = .slice (some ⟨b, off, none⟩) m.length c) (hown : RowP w B v l) (hrd : RdP w (some ⟨b, off, none⟩) m) (hl : l.length ≤ 100000) (hm : m.length ≤ 100000) (hB : B ≤ w.heap.size)
    (h : ∀ v' w', RowP w' B v' (l ++ m) → Below B w w' → w.heap.size ≤ w'.heap.size → wpList Tryz.prog ops Q rest (a.put o.dst v') w') : wpList Tryz.prog ops Q (o :: rest) a w := by
  refine wpList_plain hgd fun _ hK => ?_
  obtain ⟨iP, hiP, hzP, hsP, hbP⟩ := info_parts Tryz.infoP
  obtain ⟨v', w', hr, h2, h3, _, _⟩ := run_append_own_at (P := Tryz.prog) w B 23 o.type 30 iP _ 2 16 Tryz.underlyingP hiP hzP hsP hbP rfl (by omega) v l.length (ptsV l) hown ⟨b, off, none⟩ m.length c (ptsV m) (ptsV_length m) hrd.news (ptsV_one m) (by unfold maxLen; omega) (by omega) hB
  unfold Oper.wp execOp
  simp only [ho, resolve, invoke, builtin, Sem.run_bind, Sem.run_pure, Result.andThen_ok, List.map_toArray, List.map_cons, List.map_nil, hs, hx, hr]
  exact hK _ _ (h v' w' (rowP_congr h2 (by simp) (ptsV_append l m).symm) ((Below.refl _ _).grown h3 hB (fun q e => (hown.lt q e).1)) h3.size)
/-- The same, with all that is known of what is behind. -/
theorem wpList_appO {w : World} {ops : Array Oper} {rest : List Oper} {o : Oper} {a : Act} {Q : Exit → Act → World → Prop} (hgd : o.guard = none) (s x : Operand)
    (ho : o.op = .call { callee := .builtin .append, args := #[s, x], argTypes := #[23, 23] })
    (B b off c : Nat) (v : Value) (l m : List Pt) (hs : a.eval s = v) (hx : a.eval x = .slice (some ⟨b, off, none⟩) m.length c) (hown : RowP w B v l) (hrd : RdP w (some ⟨b, off, none⟩) m) (hl : l.length ≤ 100000) (hm : m.length ≤ 100000) (hB : B ≤ w.heap.size)
    (h : ∀ v' w', RowP w' B v' (l ++ m) → Below B w w' → w.grownBy w' v.ownBlock → (v'.ownBlock = v.ownBlock ∨ v'.ownBlock = some w.heap.size) → wpList Tryz.prog ops Q rest (a.put o.dst v') w') : wpList Tryz.prog ops Q (o :: rest) a w := by
  refine wpList_plain hgd fun _ hK => ?_
  obtain ⟨iP, hiP, hzP, hsP, hbP⟩ := info_parts Tryz.infoP
  obtain ⟨v', w', hr, h2, h3, _, h5⟩ := run_append_own_at (P := Tryz.prog) w B 23 o.type 30 iP _ 2 16 Tryz.underlyingP hiP hzP hsP hbP rfl (by omega) v l.length (ptsV l) hown ⟨b, off, none⟩ m.length c (ptsV m) (ptsV_length m) hrd.news (ptsV_one m) (by unfold maxLen; omega) (by omega) hB
  unfold Oper.wp execOp
  simp only [ho, resolve, invoke, builtin, Sem.run_bind, Sem.run_pure, Result.andThen_ok, List.map_toArray, List.map_cons, List.map_nil, hs, hx, hr]
  exact hK _ _ (h v' w' (rowP_congr h2 (by simp) (ptsV_append l m).symm) ((Below.refl _ _).grown h3 hB (fun q e => (hown.lt q e).1)) h3 h5)
/-- append of a row that may be nil. -/
theorem wpList_appR {w : World} {ops : Array Oper} {rest : List Oper} {o : Oper} {a : Act} {Q : Exit → Act → World → Prop} (hgd : o.guard = none) (s x : Operand)
    (ho : o.op = .call { callee := .builtin .append, args := #[s, x], argTypes := #[23, 23] })
    (B : Nat) (v X : Value) (l m : List Pt) (hs : a.eval s = v) (hx : a.eval x = X) (hown : RowP w B v l) (hX : ReadsP w X m) (hl : l.length ≤ 100000) (hm : m.length ≤ 100000) (hB : B ≤ w.heap.size)
    (h : ∀ v' w', RowP w' B v' (l ++ m) → Below B w w' → w.heap.size ≤ w'.heap.size → wpList Tryz.prog ops Q rest (a.put o.dst v') w') : wpList Tryz.prog ops Q (o :: rest) a w := by
  rcases hX with ⟨rfl, rfl⟩ | ⟨b, off, c, rfl, hrd⟩
  · refine wpList_plain hgd fun _ hK => ?_
    obtain ⟨iP, hiP, hzP, hsP, hbP⟩ := info_parts Tryz.infoP
    have hr := run_append_owned_none (P := Tryz.prog) w B 23 o.type 30 iP 2 Tryz.underlyingP hiP v l.length (ptsV l) hown
    unfold Oper.wp execOp
    simp only [ho, resolve, invoke, builtin, Sem.run_bind, Sem.run_pure, Result.andThen_ok, List.map_toArray, List.map_cons, List.map_nil, hs, hx, hr]
    exact hK _ _ (h v w (by rw [List.append_nil]; exact hown) (Below.refl _ _) (Nat.le_refl _))
  · exact wpList_appQ hgd s x ho B b off c v l m hs hx hown hrd hl hm hB h
theorem RowP.reads {w : World} {B : Nat} {v : Value} {l : List Pt} (h : RowP w B v l) : ReadsP w v l := by
  rcases h.2 with ⟨e, e2⟩ | ⟨g, cap, cur, e, _⟩
  · exact Or.inl ⟨e, List.length_eq_zero_iff.1 e2⟩
  · subst e; exact Or.inr ⟨g, 0, cap, rfl, RowP.rd h⟩
theorem rdP_one (u : World) (H : Nat) (x y : Int) (hH : u.heap.size = H) : RdP (u.alloc (.cells #[.int .i64 x, .int .i64 y] 30)) (some ⟨H, 0, none⟩) [⟨x, y⟩] := by
  rcases readsP_one u H x y hH with ⟨h, _⟩ | ⟨b, off, c, h, h2⟩
  · cases h
  · injection h with h _ _
    injection h with h
    injection h with h1 h2' _
    subst h1; subst h2'
    exact h2
theorem RowP.own {w : World} {B : Nat} {v : Value} {l : List Pt} (h : RowP w B v l) (h0 : 0 < l.length) : ∃ g cap, v = .slice (some ⟨g, 0, none⟩) l.length cap ∧ B ≤ g ∧ g < w.heap.size := by
  rcases h.2 with ⟨e, e2⟩ | ⟨g, cap, cur, e, hb, hg, _⟩
  · omega
  · exact ⟨g, cap, e, hb, (Array.getElem?_eq_some_iff.1 hg).1⟩
theorem RowP.ownA {w : World} {B n cap : Nat} {ad : Option Addr} {l : List Pt} (h : RowP w B (.slice ad n cap) l) (h0 : 0 < l.length) : ∃ g, ad = some ⟨g, 0, none⟩ ∧ B ≤ g ∧ g < w.heap.size := by
  obtain ⟨g, cp, e, h1, h2⟩ := h.own h0
  injection e with e _ _
  exact ⟨g, e, h1, h2⟩
theorem RowP.chgK {w w' : World} {B k : Nat} {v : Value} {l : List Pt} (h : RowP w B v l) (hc : Chg k w w') (hk : ∀ q, v.ownBlock = some q → q < k) : RowP w' B v l := by
  refine ⟨h.1, ?_⟩
  rcases h.2 with hn | ⟨g, cap, cur, rfl, hB, hgg, rest⟩
  · exact .inl hn
  · refine .inr ⟨g, cap, cur, rfl, hB, ?_, rest⟩
    rw [hc.block g (Array.getElem?_eq_some_iff.1 hgg).1 (by have := hk g rfl; omega)]
    exact hgg
theorem RowP.blk {w : World} {B : Nat} {v : Value} {l : List Pt} (h : RowP w B v l) : ∀ q, v.ownBlock = some q → q < w.heap.size := fun q e => (World.ownsRow.lt h q e).2
theorem ptsV_set : ∀ (l : List Pt) (j : Nat) (x y : Int), j < l.length → ((ptsV l).set (j * 2) (.int .i64 x)).set (j * 2 + 1) (.int .i64 y) = ptsV (l.set j ⟨x, y⟩)
  | [], j, x, y, h => by simp at h
  | p :: l, 0, x, y, _ => by simp [ptsV_cons]
  | p :: l, j + 1, x, y, h => by
    have := ptsV_set l j x y (by simpa using h)
    rw [List.set_cons_succ, ptsV_cons, ptsV_cons, ← this, show (j + 1) * 2 = (j * 2 + 1) + 1 by omega]
    rfl
theorem RowP.set2 {w : World} {B g cap : Nat} {l : List Pt} (h : RowP w B (.slice (some ⟨g, 0, none⟩) l.length cap) l) {j : Nat} (hj : j < l.length) (x y : Int) :
    RowP ((w.setCell ⟨g, j * 2, none⟩ (.int .i64 x)).setCell ⟨g, j * 2 + 1, none⟩ (.int .i64 y)) B (.slice (some ⟨g, 0, none⟩) l.length cap) (l.set j ⟨x, y⟩) := by
  have h1 := (World.ownsRow.stored h (j * 2) (.int .i64 x)).1
  have h2 := (World.ownsRow.stored h1 (j * 2 + 1) (.int .i64 y)).1
  exact rowP_congr h2 (by simp) (ptsV_set l j x y hj)
end Go.Proofs.YtnapcjfemlhkmaaGreatDoor
