/-
  Half a hull: the program's. By an AI agent.
-/
import Derived.Test.YtpnnmdkhkjenmaaPtF
import Derived.Deep.DeepCutAuto
import Derived.Laws.AppendOwnNone
import Derived.Lib.LazyBuf
namespace Go.Proofs.Ytpnnmdkhkjenmaa
open Go.RowKit

def AllSh (l : List Pt) : Prop := ∀ p ∈ l, Sh p
theorem AllSh.at {l : List Pt} (h : AllSh l) {i : Nat} (hi : i < l.length) : Sh (l.getD i default) := by
  rw [List.getD_eq_getElem?_getD, List.getElem?_eq_getElem hi, Option.getD_some]
  exact h _ (List.getElem_mem _)
theorem AllSh.drop {l : List Pt} (h : AllSh l) : AllSh l.dropLast := fun p hp => h p (List.dropLast_subset l hp)
theorem AllSh.snoc {l : List Pt} (h : AllSh l) {p : Pt} (hp : Sh p) : AllSh (l ++ [p]) := fun q hq => by
  rcases List.mem_append.1 hq with h1 | h1
  · exact h q h1
  · simp at h1; subst h1; exact hp
theorem popF_len (out : List Pt) (p : Pt) : (popF out p).length ≤ out.length := by
  induction h : out.length using Nat.strongRecOn generalizing out with
  | _ n ih =>
    cases hc : popB out p
    · rw [popF_stop hc]; omega
    · rw [popF_go hc]
      have h1 : 1 < out.length := by unfold popB at hc; simp at hc; omega
      have := ih (out.length - 1) (by omega) out.dropLast (by simp)
      omega

def lenOf : Value → Nat
  | .slice _ n _ => n
  | _ => 0

set_option maxHeartbeats 3200000 in
set_option maxRecDepth 100000 in
theorem half_c (ad : Option Addr) (cap : Nat) (l : List Pt) (w : World) (hr : RdP w ad l) (hl : l.length ≤ 100000) (h0 : 0 < l.length) (hs : AllSh l) :
    Calls Try.prog 46 #[.slice ad l.length cap] w fun e w' => ∃ v, e = .returned v ∧ RowP w' w.heap.size v (halfF l).dropLast ∧ Below w.heap.size w w' := by
  have HR := Lib.hid hr; clear hr
  obtain ⟨iP, hiP, hzP, hsP, hbP⟩ := info_parts Try.infoP
  go_enter Try.func46, Try.ntmps46
  go_wp2_with fail
  go_loopw [3, 9] (fun v i wr => ∃ k : Nat, k ≤ l.length ∧ i = .int .i64 k ∧ RowP wr w.heap.size v (halfF (l.take k)) ∧ AllSh (halfF (l.take k)) ∧ (halfF (l.take k)).length ≤ k ∧ Below w.heap.size w wr) (fun _ i _ => l.length - (intOf i).toNat)
  case atStart => exact ⟨0, Nat.zero_le _, rfl, rowP_empty w, (fun p hp => by simp [halfF] at hp), by simp [halfF], (Below.refl _ _).alloc (Nat.le_refl _) _⟩
  case round =>
    obtain ⟨wE, rfl⟩ : ∃ x : World, x = wr := ⟨_, rfl⟩
    obtain ⟨k, hk, rfl, hrow, hsh, hlen, hbel⟩ := hrel
    have HO := Lib.hid hrow; clear hrow
    by_cases hlt : k < l.length
    case neg =>
      obtain rfl : k = l.length := by omega
      rw [List.take_length] at HO hsh hlen
      have h1 : 0 < (halfF l).length := by
        obtain ⟨l', q, rfl⟩ : ∃ l' q, l = l' ++ [q] := ⟨l.dropLast, l.getLast (by intro e; subst e; simp at h0), (List.dropLast_concat_getLast _).symm⟩
        rw [halfF_snoc]; simp
      obtain ⟨adv, capv, rfl, hc1, hc2⟩ := HO.out.shape
      obtain ⟨m, hm⟩ : ∃ m, (halfF l).length = m + 1 := ⟨(halfF l).length - 1, by omega⟩
      have hdr := HO.out.drop h1
      rw [hm] at hdr hc1
      rw [Nat.add_sub_cancel] at hdr
      have HD := Lib.hid hdr; clear hdr HO
      have HM := Lib.hid hm
      obtain ⟨n, hn⟩ : ∃ n, (halfF l).length = n := ⟨_, rfl⟩
      rw [hn]
      have en : (n : Int) - 1 = (m : Int) := by omega
      have wn : IntKind.i64.wrap (m : Int) = (m : Int) := i64_small (by omega) (by omega)
      have mc : m ≤ capv := by omega
      have mn : m ≤ n := by omega
      clear hm hn
      go_wp2_with fail
      go_ret
      exact ⟨_, rfl, HD.out, hbel⟩
    case pos =>
      obtain ⟨b, off, rfl, hb, c0, c1⟩ := HR.out k hlt
      have d0 := bcell hbel hb c0
      have d1 := bcell hbel hb c1
      clear c0 c1
      have hps := hs.at hlt
      obtain ⟨p, hp⟩ : ∃ p, l.getD k default = p := ⟨_, rfl⟩
      rw [hp] at d0 d1 hps
      obtain ⟨px, py⟩ := p
      simp only at d0 d1
      have hnx := halfF_snoc (l.take k) ⟨px, py⟩
      rw [show l.take k ++ [⟨px, py⟩] = l.take (k + 1) by rw [← hp]; exact (List.take_succ_eq_append_getElem hlt).symm ▸ (by rw [List.getD_eq_getElem?_getD, List.getElem?_eq_getElem hlt, Option.getD_some])] at hnx
      have HNX := Lib.hid hnx; clear hnx hp
      go_wp2_with fail
      obtain ⟨wB, hwB⟩ : ∃ x, wE.alloc (.cells #[.int .i64 px, .int .i64 py] 33) = x := ⟨_, rfl⟩
      have hEB : Below wE.heap.size wE wB := by rw [← hwB]; exact (Below.refl _ _).alloc (Nat.le_refl _) _
      have b0 : wB.cell? ⟨wE.heap.size, 0, none⟩ = some (.int .i64 px) := by rw [← hwB]; simp [go_sem]
      have b1 : wB.cell? ⟨wE.heap.size, 1, none⟩ = some (.int .i64 py) := by rw [← hwB]; simp [go_sem]
      have bl : wE.heap.size < wB.heap.size := by rw [← hwB]; simp
      rw [hwB]
      clear hwB d0 d1
      have HOB := Lib.hid (HO.out.below hEB)
      have hbB := ball hbel hEB
      have hzE := hbel.size
      go_loopw [3] (fun v wr => ∃ o : List Pt, RowP wr w.heap.size v o ∧ AllSh o ∧ o.length ≤ k ∧ popF o ⟨px, py⟩ = popF (halfF (l.take k)) ⟨px, py⟩ ∧ Below wB.heap.size wB wr) (fun v _ => lenOf v)
      case atStart => exact ⟨_, HOB.out, hsh, hlen, rfl, Below.refl _ _⟩
      case round =>
        obtain ⟨wF, rfl⟩ : ∃ x : World, x = wr := ⟨_, rfl⟩
        obtain ⟨o, hro, hso, hol, hpo, hbF⟩ := hrel
        obtain ⟨adv, capv, rfl, hc1, hc2⟩ := hro.shape
        have HRO := Lib.hid hro; have HPO := Lib.hid hpo; clear hro hpo
        have e0 := bcell hbF bl b0
        have e1 := bcell hbF bl b1
        obtain ⟨c, hc⟩ : ∃ c, popB o ⟨px, py⟩ = c := ⟨_, rfl⟩
        have HCC := Lib.hid hc; clear hc
        go_upto_region 5 with fail
        go_cut [32] from 13 to 32 (fun s wc => s = .bool c ∧ Below wF.heap.size wF wc)
        case first =>
          by_cases hle : 1 < o.length
          case neg =>
            have g1 : decide ((1 : Int) < (o.length : Int)) = false := decide_eq_false (by omega)
            have g2 : decide (1 < o.length) = false := decide_eq_false hle
            have HLE := Lib.hid hle; clear hle
            go_wp2_with fail
            go_quiet (fail)
            go_wp2_with fail
            go_meet
            exact ⟨by rw [← HCC.out]; unfold popB; rw [decide_eq_false HLE.out, Bool.false_and], bdrewN (Below.refl _ _) nq⟩
          case pos =>
            have g1 : decide ((1 : Int) < (o.length : Int)) = true := decide_eq_true (by omega)
            have g2 : decide (1 < o.length) = true := decide_eq_true hle
            have hrd := HRO.out.rd
            obtain ⟨bo, offo, rfl, hbo⟩ := hrd.some (by omega)
            obtain ⟨i2, hi2⟩ : ∃ i2, o.length = i2 + 2 := ⟨o.length - 2, by omega⟩
            obtain ⟨i1, hi1⟩ : ∃ i1, o.length = i1 + 1 := ⟨o.length - 1, by omega⟩
            obtain ⟨p1, p2⟩ := hrd.at (show i2 < o.length by omega)
            obtain ⟨q1, q2⟩ := hrd.at (show i1 < o.length by omega)
            have s1 := hso.at (show i2 < o.length by omega)
            have s2 := hso.at (show i1 < o.length by omega)
            have f2 : (o.length : Int) - 2 = (i2 : Int) := by omega
            have f1 : (o.length : Int) - 1 = (i1 : Int) := by omega
            have w2 : IntKind.i64.wrap (i2 : Int) = (i2 : Int) := i64_small (by omega) (by omega)
            have w1 : IntKind.i64.wrap (i1 : Int) = (i1 : Int) := i64_small (by omega) (by omega)
            have x1 : (0 : Int) ≤ (i2 : Int) := by omega
            have x2 : (i2 : Int) < (o.length : Int) := by omega
            have x3 : (0 : Int) ≤ (i1 : Int) := by omega
            have x4 : (i1 : Int) < (o.length : Int) := by omega
            have hpop : popB o ⟨px, py⟩ = decide (turnZ (o.getD i2 default) (o.getD i1 default) ⟨px, py⟩ ≤ 0) := by unfold popB; rw [decide_eq_true hle, Bool.true_and, show o.length - 2 = i2 by omega, show o.length - 1 = i1 by omega]
            obtain ⟨pp, hpp⟩ : ∃ x, o.getD i2 default = x := ⟨_, rfl⟩
            obtain ⟨qq, hqq⟩ : ∃ x, o.getD i1 default = x := ⟨_, rfl⟩
            rw [hpp] at p1 p2 s1 hpop
            rw [hqq] at q1 q2 s2 hpop
            have ct := fun w => turn_c pp qq ⟨px, py⟩ w s1 s2 hps
            generalize turnZ pp qq ⟨px, py⟩ = z at ct hpop
            unfold ptV at ct
            have CT := Lib.hid ct; have HPOP := Lib.hid (HCC.out.symm.trans hpop); clear ct hpop hpp hqq hi1 hi2 s1 s2 hrd hps
            have lE : wE.heap.size < wF.heap.size := Nat.lt_of_lt_of_le bl hbF.size
            go_wp2_with fail
            go_region_held3 (fun w' => ((w'.cell? ⟨bo, offo + i2 * 2, none⟩ = some (.int .i64 pp.x) ∧ w'.cell? ⟨bo, offo + i2 * 2 + 1, none⟩ = some (.int .i64 pp.y)) ∧ w'.cell? ⟨bo, offo + i1 * 2, none⟩ = some (.int .i64 qq.x) ∧ w'.cell? ⟨bo, offo + i1 * 2 + 1, none⟩ = some (.int .i64 qq.y)) ∧ w'.cell? ⟨wE.heap.size, 0, none⟩ = some (.int .i64 px) ∧ w'.cell? ⟨wE.heap.size, 1, none⟩ = some (.int .i64 py)) (exact ⟨⟨⟨by assumption, by assumption⟩, by assumption, by assumption⟩, by assumption, by assumption⟩)
              (first
                | (go_at_call 55; (with_reducible refine (CT.out _).mono ?_); rintro e W1 ⟨rfl, hw1⟩; have m1 := bcell hw1 hbo p1; have m2 := bcell hw1 hbo p2; have m3 := bcell hw1 hbo q1; have m4 := bcell hw1 hbo q2; have m5 := bcell hw1 lE e0; have m6 := bcell hw1 lE e1))
            go_wp2_with fail
            go_meet
            exact ⟨by rw [HPOP.out], (Below.refl _ _).drew.trans hw1⟩
        case rest =>
          obtain ⟨rfl, hbc⟩ := hcut
          obtain ⟨wG, rfl⟩ : ∃ x : World, x = wc := ⟨_, rfl⟩
          have HRG := Lib.hid (HRO.out.below hbc)
          have hbG := ball hbF hbc
          have e2 := bcell hbc (Nat.lt_of_lt_of_le bl hbF.size) e0
          have e3 := bcell hbc (Nat.lt_of_lt_of_le bl hbF.size) e1
          clear hbc e0 e1
          cases c
          case true =>
            have h1 : 1 < o.length := by have := HCC.out; unfold popB at this; simp at this; omega
            have hdr := HRG.out.drop (by omega)
            obtain ⟨m, hm⟩ : ∃ m, o.length = m + 1 := ⟨o.length - 1, by omega⟩
            have hdl : o.dropLast.length = m := by rw [List.length_dropLast]; omega
            rw [show o.length - 1 = m by omega] at hdr
            have HDR := Lib.hid hdr; have HDL := Lib.hid hdl; clear hdr hdl
            have en : (o.length : Int) - 1 = (m : Int) := by omega
            have wn : IntKind.i64.wrap (m : Int) = (m : Int) := i64_small (by omega) (by omega)
            have mc : m ≤ capv := by omega
            have mn : m < o.length := by omega
            clear hm
            go_wp2_with fail
            go_roundw
            case rel => first | exact ⟨o.dropLast, HDR.out, hso.drop, by rw [HDL.out]; omega, by rw [← popF_go HCC.out]; exact HPO.out, hbG⟩ | ((repeat apply Exists.intro); exact ⟨⟨o.dropLast, HDR.out, hso.drop, by rw [HDL.out]; omega, by rw [← popF_go HCC.out]; exact HPO.out, hbG⟩, rfl⟩)
            case measure => simp [lenOf]; omega
          case false =>
            have HEQ := Lib.hid (show halfF (l.take (k + 1)) = o ++ [⟨px, py⟩] by rw [HNX.out, ← HPO.out, popF_stop HCC.out])
            clear HCC
            have hbw := ball hbB hbG
            have hszG := hbw.size
            go_wp2_with (at_builtin; refine wpList_append_lies _ rfl _ _ 26 rfl w.heap.size 33 iP _ 2 16 Try.underlyingP hiP hzP hsP hbP rfl (by omega) (.slice adv o.length capv) o.length (ptsV o) rfl (HRG.out.alloc _) ⟨wG.heap.size, 0, none⟩ 1 1 [.int .i64 px, .int .i64 py] rfl rfl (World.news_of_block (cs := #[.int .i64 px, .int .i64 py]) (t := 33) (fr := (0, 0)) (heap_alloc_new _ _)) (by simp [Value.oneCell']) (by omega) (by unfold maxLen; omega) (by omega) (by simp; omega) (wG.heap.size + 1) (by simp) ?_; intro g5 cap5 wm hown hgrow hat hlt5; clear hat)
            have hbm := appP_below hbw hszG HRG.out hgrow
            go_roundw
            case rel => first | exact ⟨k + 1, by omega, by go_num, by rw [HEQ.out]; exact rowP_congr hown (by simp) (ptsV_snoc o ⟨px, py⟩).symm, by rw [HEQ.out]; exact hso.snoc hps, by rw [HEQ.out]; simp; omega, hbm⟩ | ((repeat apply Exists.intro); exact ⟨⟨k + 1, by omega, by go_num, by rw [HEQ.out]; exact rowP_congr hown (by simp) (ptsV_snoc o ⟨px, py⟩).symm, by rw [HEQ.out]; exact hso.snoc hps, by rw [HEQ.out]; simp; omega, hbm⟩, rfl⟩)
            case measure => simp [intOf]; omega

end Go.Proofs.Ytpnnmdkhkjenmaa
