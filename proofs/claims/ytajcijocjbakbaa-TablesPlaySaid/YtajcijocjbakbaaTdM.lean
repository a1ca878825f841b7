import Derived.Test.YtajcijocjbakbaaTdK
import Derived.Test.YtajcijocjbakbaaTdL
import Derived.Deep.RegionHeld3
namespace Go.Proofs.Ytajcijocjbakbaa
open Go.RowKit

theorem vq_few {v : List Vt} (hv : VFew v) (d i : Int) : (vq v d i).length ≤ 4000 := by
  unfold vq
  cases hk : vk v d i with
  | none => simp
  | some k => exact vk_few hv hk
set_option maxRecDepth 100000 in
set_option maxHeartbeats 2000000 in
theorem sameSets_any (B sp sr : Nat) (Op Or : Nat → Prop) (v : List Vt) (w : World) (h : Both w B sp sr Op Or v) (hv : VFew v) :
    Calls Try.prog 22 #[.pointer (some ⟨sp, 0, none⟩), .pointer (some ⟨sr, 0, none⟩)] w fun e w' => e = .returned (.bool true) ∧ Frm w w' fun _ => False := by
  obtain ⟨T, hT, hO⟩ := h.r.ex
  have HT := Lib.hid hT
  have HP := Lib.hid h.p
  have HV := Lib.hid hv
  have HH := Lib.hid (fun V (hf : Frm w V fun _ => False) (d : Int) => has_v (h.p.new_ hf) d)
  have HH2 := Lib.hid (fun V (hf : Frm w V fun _ => False) (d : Int) => rhas_any B sr T v d V (hT.new_ hf))
  have e96 := neq96
  have eg96 := eqg96
  clear hT hO h hv
  go_enter Try.func22, Try.ntmps22
  go_wp2_with fail
  go_loopw [5, 6, 7] (fun i j1 j2 wr => ∃ d : Nat, i = .int .i64 d ∧ 1 ≤ d ∧ d ≤ 10 ∧ Frm w wr fun _ => False) (fun i _ _ _ => 10 - (intOf i).toNat)
  case atStart => exact ⟨1, rfl, by omega, by omega, Frm.refl _ _⟩
  case round =>
    obtain ⟨d, rfl, hd1, hd10, hF⟩ := hrel
    have F := Lib.hid hF
    clear hF
    by_cases hlk : d ≤ 9
    · have e1 : decide ((d : Int) ≤ 9) = true := by rw [decide_eq_true_eq]; omega
      cases hg : vget v d with
      | none =>
        have HA := Lib.hid (show Calls Try.prog 10 #[.pointer (some ⟨sp, 0, none⟩), .int .i64 d] wr fun e w' => e = .returned (.bool false) ∧ wr = w' by have := HH.out wr F.out d; rw [hg] at this; exact this)
        have HB := Lib.hid (show Calls Try.prog 45 #[.pointer (some ⟨sr, 0, none⟩), .int .i64 d] wr fun e w' => e = .returned (.bool false) ∧ wr = w' by have := HH2.out wr F.out d; rw [hg] at this; exact this)
        clear hg
        go_wp2_with (first
          | (go_at_call 10; refine HA.out.mono ?_; rintro _ _ ⟨rfl, rfl⟩)
          | (go_at_call 45; refine HB.out.mono ?_; rintro _ _ ⟨rfl, rfl⟩))
        go_loopw [6, 7] (fun i j1 w2 => i = .int .i64 0 ∧ wr = w2) (fun _ _ _ => 0)
        case atStart => exact ⟨rfl, rfl⟩
        case round =>
          obtain ⟨rfl, rfl⟩ := hrel
          go_wp2_with (go_at_call 45; refine HB.out.mono ?_; rintro _ _ ⟨rfl, rfl⟩)
          go_roundw
          case rel => exact ⟨d + 1, by go_num, by omega, by omega, F.out⟩
          case measure => simp [intOf]; omega
      | some bs =>
        have HA := Lib.hid (show Calls Try.prog 10 #[.pointer (some ⟨sp, 0, none⟩), .int .i64 d] wr fun e w' => e = .returned (.bool true) ∧ wr = w' by have := HH.out wr F.out d; rw [hg] at this; exact this)
        have HB := Lib.hid (fun V (hf : Frm wr V fun _ => False) => show Calls Try.prog 45 #[.pointer (some ⟨sr, 0, none⟩), .int .i64 d] V fun e w' => e = .returned (.bool true) ∧ V = w' by have := HH2.out V (F.out.then_ hf) d; rw [hg] at this; exact this)
        obtain ⟨htb, hsz⟩ := HT.out.ok d bs hg
        have hd8 := (tbl_iff d).1 htb
        have hl := (HT.out.n d (by omega)).2.2
        rw [vrow_some hg] at hl
        have hc := (HT.out.cell d (by omega)).2
        have h256 := HT.out.ok.few d
        rw [vrow_some hg] at h256
        obtain ⟨⟨A, N, c⟩, hte⟩ : ∃ x, (T d).ht = x := ⟨_, rfl⟩
        rw [hte] at hc hl
        replace hl : N = bs.length := hl
        replace hc : w.cell? ⟨sr, 9 + d, none⟩ = some (.slice A N c) := hc
        have HC := Lib.hid hc
        have d0 : (0 : Int) ≤ (d : Int) := by omega
        have d9 : (d : Int) < 9 := by omega
        have hN : N ≤ 256 := by omega
        clear hg htb hsz hl hc h256 hte
        go_wp2_with (first
          | (go_at_call 10; refine HA.out.mono ?_; rintro _ _ ⟨rfl, rfl⟩)
          | (go_at_call 45; refine (HB.out _ (Frm.refl _ _)).mono ?_; rintro _ _ ⟨rfl, rfl⟩))
        go_loopw [6, 7] (fun i j1 w2 => ∃ k : Nat, i = .int .i64 k ∧ k ≤ N ∧ Frm wr w2 fun _ => False) (fun i _ _ => N - (intOf i).toNat)
        case atStart => exact ⟨0, rfl, Nat.zero_le _, Frm.refl _ _⟩
        case round =>
          obtain ⟨k, rfl, hk, hG⟩ := hrel
          have G := Lib.hid hG
          have HB2 := Lib.hid (HB.out _ hG)
          have FG := Lib.hid (F.out.then_ hG)
          have c9 := FG.out.cell HC.out id
          clear hG
          by_cases hkN : k < N
          · have k0 : (0 : Int) ≤ (k : Int) := by omega
            have k1 : (k : Int) < (N : Int) := by omega
            obtain ⟨q, hq⟩ : ∃ q, vq v (d : Int) (k : Int) = q := ⟨_, rfl⟩
            obtain ⟨⟨ta, tf⟩, htm⟩ : ∃ x, vtm v (d : Int) (k : Int) = x := ⟨_, rfl⟩
            have hq4 := vq_few HV.out (d : Int) (k : Int)
            rw [hq] at hq4
            obtain ⟨mq, hmq⟩ : ∃ m, q.length = m := ⟨_, rfl⟩
            have HTP := Lib.hid (fun V (hf : Frm w V fun _ => False) => show Calls Try.prog 12 #[.pointer (some ⟨sp, 0, none⟩), plV d (k : Nat)] V fun e w' => e = .returned (tmV ta tf) ∧ Frm V w' fun _ => False by have := timer_v (HP.out.new_ hf) d (k : Nat); rw [htm] at this; exact this)
            have HTR := Lib.hid (fun V (hf : Frm w V fun _ => False) => show Calls Try.prog 44 #[.pointer (some ⟨sr, 0, none⟩), plV d (k : Nat)] V fun e w' => e = .returned (tmV ta tf) ∧ Frm V w' fun _ => False by have := rtimer_any B sr T v d (k : Nat) V (HT.out.new_ hf); rw [htm] at this; exact this)
            have HQP := Lib.hid (fun V (hf : Frm w V fun _ => False) => show Calls Try.prog 25 #[.pointer (some ⟨sp, 0, none⟩), plV d (k : Nat)] V fun e w' => ∃ A', e = .returned (.slice A' mq mq) ∧ Rd w' w'.heap.size 3 A' mq (ens q) ∧ Frm V w' fun _ => False by have := queue_v (HP.out.new_ hf) HV.out d (k : Nat); rw [hq, hmq] at this; exact this.mono fun _ _ ⟨A', h1, h2, h3⟩ => ⟨A', h1, h2.rd, h3⟩)
            have HQR := Lib.hid (fun V (hf : Frm w V fun _ => False) => show Calls Try.prog 43 #[.pointer (some ⟨sr, 0, none⟩), plV d (k : Nat)] V fun e w' => ∃ A' c', e = .returned (.slice A' mq c') ∧ Rd w' w'.heap.size 3 A' mq (ens q) ∧ Frm V w' fun _ => False by have := rqueue_any B sr T v d (k : Nat) V (HT.out.new_ hf); rw [hq, hmq] at this; exact this)
            have hm4 : (mq : Int) ≤ 4000 := by omega
            clear hq htm hq4 hmq
            go_wp2_with (go_at_call 45; refine HB2.out.mono ?_; rintro _ _ ⟨rfl, rfl⟩)
            refine at_world' ?_
            intro W hW
            have hb0 : W.cell? ⟨wr.heap.size, 0, none⟩ = some (.int .i64 (d : Nat)) := by rw [hW]; go_simp
            have hb1 : W.cell? ⟨wr.heap.size, 1, none⟩ = some (.int .i64 (k : Nat)) := by rw [hW]; go_simp
            have hDW : Frm wr W fun _ => False := by rw [hW]; exact (Frm.refl _ _).alloc _
            obtain ⟨b, hb⟩ : ∃ b, wr.heap.size = b := ⟨_, rfl⟩
            rw [hb] at hb0 hb1 ⊢
            have DW := Lib.hid (FG.out.then_ hDW)
            have DR := Lib.hid hDW
            have HBB := Lib.hid (And.intro hb0 hb1)
            clear hW hDW hb c9
            have D := Lib.hid ((Frm.refl W fun _ => False).drew)
            go_region_held3 (fun w' => w'.cell? ⟨b, 0, none⟩ = some (.int .i64 (d : Nat)) ∧ w'.cell? ⟨b, 1, none⟩ = some (.int .i64 (k : Nat))) (first | assumption | go_keep | (refine ⟨?_, ?_⟩ <;> first | assumption | go_keep)) (first
              | (go_at_call 12; refine (HTP.out _ (DW.out.then_ D.out)).mono ?_; rintro _ w7 ⟨rfl, hf⟩; replace D := Lib.hid (D.out.then_ hf); clear hf; have hb0 := D.out.cell HBB.out.1 id; have hb1 := D.out.cell HBB.out.2 id)
              | (go_at_call 44; refine (HTR.out _ (DW.out.then_ D.out)).mono ?_; rintro _ w7 ⟨rfl, hf⟩; replace D := Lib.hid (D.out.then_ hf); clear hf; have hb0 := D.out.cell HBB.out.1 id; have hb1 := D.out.cell HBB.out.2 id)
              | (go_at_call 40; refine (otherT_any ta tf _).mono ?_; rintro _ w7 ⟨rfl, hf⟩; replace D := Lib.hid (D.out.then_ hf); clear hf; have hb0 := D.out.cell HBB.out.1 id; have hb1 := D.out.cell HBB.out.2 id)
              | (go_at_call 35; have RZ := RA.out; clear RZ; refine (otherP_any d k _).mono ?_; rintro _ w7 ⟨rfl, hf⟩; have RQ := Lib.hid (RA.out.new_ hf); replace D := Lib.hid (D.out.then_ hf); clear hf; have hb0 := D.out.cell HBB.out.1 id; have hb1 := D.out.cell HBB.out.2 id)
              | (go_at_call 35; refine (otherP_any d k _).mono ?_; rintro _ w7 ⟨rfl, hf⟩; replace D := Lib.hid (D.out.then_ hf); clear hf; have hb0 := D.out.cell HBB.out.1 id; have hb1 := D.out.cell HBB.out.2 id)
              | (go_at_call 25; refine (HQP.out _ (DW.out.then_ D.out)).mono ?_; rintro _ w7 ⟨A1, rfl, hra, hf⟩; have RA := Lib.hid hra; replace D := Lib.hid (D.out.then_ hf); clear hra hf; have hb0 := D.out.cell HBB.out.1 id; have hb1 := D.out.cell HBB.out.2 id)
              | (go_at_call 43; refine (HQR.out _ (DW.out.then_ D.out)).mono ?_; rintro _ w7 ⟨A2, c2, rfl, hra, hf⟩; have RB := Lib.hid hra; have RC := Lib.hid (RQ.out.new_ hf); replace D := Lib.hid (D.out.then_ hf); clear hra hf; have hb0 := D.out.cell HBB.out.1 id; have hb1 := D.out.cell HBB.out.2 id)
              | (go_at_call 42; refine (same_big A1 A2 mq mq c2 q _ RC.out RB.out hm4).mono ?_; rintro _ w7 ⟨rfl, hf⟩; replace D := Lib.hid (D.out.then_ hf); clear hf; have hb0 := D.out.cell HBB.out.1 id; have hb1 := D.out.cell HBB.out.2 id))
            all_goals
              go_wp2_with fail
              go_roundw
              case rel => exact ⟨k + 1, by go_num, by omega, G.out.then_ (DR.out.then_ D.out)⟩
              case measure => simp [intOf]; omega
          · obtain rfl : k = N := by omega
            go_wp2_with (go_at_call 45; refine HB2.out.mono ?_; rintro _ _ ⟨rfl, rfl⟩)
            go_roundw
            case rel => exact ⟨d + 1, by go_num, by omega, by omega, FG.out⟩
            case measure => simp [intOf]; omega
    · obtain rfl : d = 10 := by omega
      go_wp2_with fail
      go_ret
      exact ⟨rfl, F.out⟩
end Go.Proofs.Ytajcijocjbakbaa
