import Derived.Test.YtaenclbbiodhfaaCkF
import Derived.LoopTactic
import Derived.Deep.CutRange
namespace Go.Proofs.Ytaenclbbiodhfaa.Come
open Go.RowKit Go.Proofs.Ytaenclbbiodhfaa

theorem plus_assoc (a g x : Nat) : plus (plus a g) x = plus a (plus g x) := by
  unfold plus
  repeat' split
  all_goals omega
theorem plus_mono (a g g' : Nat) (h : g ≤ g') (ha : U a) : plus a g ≤ plus a g' := by
  have := ha.lt
  unfold plus
  repeat' split
  all_goals omega
theorem plus_ge (g x : Nat) (hg : U g) : g ≤ plus g x := by have := hg.lt; unfold plus; split <;> omega
theorem plus_zero (a : Nat) (ha : U a) : plus a 0 = a := by have := ha.lt; unfold plus; rw [if_pos (by omega)]; omega
theorem plus_zero' (a : Nat) (ha : U a) : plus 0 a = a := by have := ha.lt; unfold plus; rw [if_pos (by omega)]; omega
theorem plus_stuck (a g n : Nat) (h : g < n) (hn : plus a n ≤ plus a g) : plus a g = 18446744073709551615 := by
  revert hn
  unfold plus
  repeat' split
  all_goals omega
theorem come_first (a n : Nat) (ha : U a) (hn : U n) : comeB a true (plus a n) = (decide (n = 0) || decide (a = 18446744073709551615)) := by
  have := ha.lt
  have := hn.lt
  unfold comeB plus
  rw [Bool.eq_iff_iff]
  simp
  split <;> omega

/-- What a round knows. -/
structure Inv (w wr : World) (b bu D : Nat) (A : Option Addr) (cap now : Nat) : Prop where
  own : Own w wr b A cap now 0 []
  c0 : wr.cell? ⟨bu, 0, none⟩ = some (.bool true)
  c1 : wr.cell? ⟨bu, 1, none⟩ = some (.int .u64 D)
  ne : ¬ bu = b
theorem Inv.tick {w wr w' : World} {b bu D : Nat} {A : Option Addr} {cap now n : Nat} (h : Inv w wr b bu D A cap now) (hc : Clk w' b A cap n 0 []) (hf : Frm wr w' fun k => k = b) : Inv w w' b bu D A cap n :=
  ⟨h.own.tick hc hf, hf.cell h.c0 h.ne, hf.cell h.c1 h.ne, h.ne⟩
theorem Inv.new_ {w wr w' : World} {b bu D : Nat} {A : Option Addr} {cap now : Nat} (h : Inv w wr b bu D A cap now) (hf : Frm wr w' fun _ => False) : Inv w w' b bu D A cap now :=
  ⟨h.own.new_ hf, hf.cell h.c0 id, hf.cell h.c1 id, h.ne⟩
theorem Rd.cells {w : World} {B m : Nat} {A : Option Addr} {l : List Nat} (h : Rd w B 1 A m (us l)) : m = l.length ∧ (0 < m → ∃ g off, A = some ⟨g, off, none⟩ ∧ ∀ i (hi : i < l.length), w.cell? ⟨g, off + i, none⟩ = some (.int .u64 (l[i] : Nat))) := by
  have hm : m = l.length := by have := h.1; rw [us_len] at this; omega
  refine ⟨hm, fun hp => ?_⟩
  obtain ⟨g, off, e, _, hc⟩ := h.2 (by rw [us_len]; omega)
  exact ⟨g, off, e, fun i hi => hc i _ (by simp [us, hi])⟩

set_option maxRecDepth 100000 in
set_option maxHeartbeats 4000000 in
theorem walk (at_ n : Nat) (ha : U at_) (hn : U n) (A0 : Option Addr) (len cap0 : Nat) (l : List Nat) (w : World) (hr : Rd w w.heap.size 1 A0 len (us l)) (hmx : len ≤ 9223372036854775807) (hu : ∀ d ∈ l, U d) :
    Calls Try.prog 7 #[.int .u64 at_, .int .u64 n, .slice A0 len cap0] w fun e w' => e = .returned (.bool true) ∧ Frm w w' fun _ => False := by
  by_cases h100 : (100 : Int) < (len : Int)
  · go_enter Try.func7, Try.ntmps7
    go_wp2_with (go_at_call 35; refine (lives_any _).mono ?_; rintro e w' ⟨rfl, hf⟩)
    go_ret
    exact ⟨rfl, hf⟩
  · have h100' : (len : Int) ≤ 100 := by omega
    clear h100
    go_enter Try.func7, Try.ntmps7
    go_wp2_with fail
    refine (new_any 0 [] _ _ U.zero _ (Rd.nil _ _ _ _) (fit0 (by decide)) (fun _ h => by cases h)).mono ?_
    rintro e w1 ⟨v, rfl, hnew⟩
    obtain ⟨b, A, cap, rfl, O⟩ := Own.of_new hnew
    replace O := Lib.hid O
    clear hnew
    go_wp2_with fail
    refine (tick_any b _ _ _ _ _ at_ ha w1 O.out.clk).mono ?_
    rw [plus_zero' at_ ha]
    rintro e w2 ⟨rfl, hc, hf⟩
    have O2 := Lib.hid (O.out.tick hc hf)
    clear hc hf O
    go_wp2_with fail
    refine (after_any b _ _ _ _ _ n hn w2 O2.out.clk).mono ?_
    obtain ⟨D, hD⟩ : ∃ D, D = plus at_ n := ⟨_, rfl⟩
    rw [← hD]
    have HD := Lib.hid hD
    clear hD
    rintro e w3 ⟨rfl, hf⟩
    have O3 := Lib.hid (O2.out.new_ hf)
    clear hf O2
    have I3 : ∀ t, Hid (Inv w (w3.alloc (.cells #[.bool true, .int .u64 D] t)) b w3.heap.size D A cap at_) := fun t => ⟨O3.out.new_ ((Frm.refl _ _).alloc _), by rw [World.cell?_alloc_new]; rfl, by rw [World.cell?_alloc_new]; rfl, by have := O3.out.clk.lt; omega⟩
    go_wp2_with fail
    refine (now_any b _ _ _ _ _ _ (I3 _).out.own.clk).mono ?_
    rintro e w4 ⟨rfl, rfl⟩
    go_upto_region 8 with fail
    refine at_world ?_
    rintro W rfl
    go_cut [39] from 12 to 98 (fun s39 wx => s39 = .bool false ∧ Inv w wx b w3.heap.size D A cap at_)
    case first =>
      have IW := Lib.hid ((I3 73).out)
      have q0 := IW.out.c0
      have q1 := IW.out.c1
      have hB0 := come_first at_ n ha hn
      rw [← HD.out] at hB0
      by_cases hn0 : n = 0
      · have b1 : ((n : Int) == 0) = true := by simp; omega
        have hB : comeB at_ true D = true := by rw [hB0]; simp [hn0]
        clear hB0 hn0
        go_wp2_with (go_at_call 40; refine (come_any _ _ _ _ _ _ true D _ IW.out.own.clk).mono ?_; rw [hB]; rintro e w5 ⟨rfl, hf⟩; have I5 := Lib.hid (IW.out.new_ hf); clear hf)
        go_meet
        exact ⟨rfl, I5.out⟩
      · have b1 : ((n : Int) == 0) = false := by simp; omega
        by_cases hm : at_ = 18446744073709551615
        · have b2 : ((at_ : Int) == 18446744073709551615) = true := by simp; omega
          have hB : comeB at_ true D = true := by rw [hB0]; simp [hm]
          clear hB0 hn0 hm
          go_wp2_with (go_at_call 40; refine (come_any _ _ _ _ _ _ true D _ IW.out.own.clk).mono ?_; rw [hB]; rintro e w5 ⟨rfl, hf⟩; have I5 := Lib.hid (IW.out.new_ hf); clear hf)
          go_meet
          exact ⟨rfl, I5.out⟩
        · have b2 : ((at_ : Int) == 18446744073709551615) = false := by simp; omega
          have hB : comeB at_ true D = false := by rw [hB0]; simp [hm, hn0]
          clear hB0 hn0 hm
          go_wp2_with (go_at_call 40; refine (come_any _ _ _ _ _ _ true D _ IW.out.own.clk).mono ?_; rw [hB]; rintro e w5 ⟨rfl, hf⟩; have I5 := Lib.hid (IW.out.new_ hf); clear hf)
          go_meet
          exact ⟨rfl, I5.out⟩
    case rest =>
      obtain ⟨rfl, hI⟩ := hcut
      have S := Lib.hid hI
      clear hI I3 O3
      go_wp2_with fail
      go_loopw [9, 10, 11] (fun g la i wr => ∃ (k G N : Nat), i = .int .i64 k ∧ k ≤ len ∧ g = .int .u64 G ∧ la = .int .u64 N ∧ U G ∧ Hid (N = plus at_ G) ∧ Inv w wr b w3.heap.size D A cap N) (fun _ _ i _ => len - (intOf i).toNat)
      case atStart => exact ⟨0, 0, at_, rfl, Nat.zero_le _, rfl, rfl, U.zero, (show _ = _ from (plus_zero at_ ha).symm), S.out⟩
      case round =>
        obtain ⟨k, G, N, rfl, hk, rfl, rfl, hG, hN, hI⟩ := hrel
        have I := Lib.hid hI
        clear hI S
        by_cases hlt : k < len
        · obtain ⟨hlen, hcells⟩ := Rd.cells hr
          obtain ⟨g, off, rfl, hcell⟩ := hcells (by omega)
          have hkl : k < l.length := by omega
          obtain ⟨x, hx0⟩ : ∃ x, x = l[k] := ⟨_, rfl⟩
          have cx := hcell k hkl
          rw [← hx0] at cx
          have hx : U x := hx0 ▸ hu _ (List.getElem_mem hkl)
          have i0 : (0 : Int) ≤ (k : Int) := by omega
          have i1 : (k : Int) < (len : Int) := by omega
          obtain ⟨G1, hG1'⟩ : ∃ G1, G1 = plus G x := ⟨_, rfl⟩
          obtain ⟨N1, hN1'⟩ : ∃ N1, N1 = plus at_ G1 := ⟨_, rfl⟩
          have hN1 : plus N x = N1 := by rw [hN1', hG1', hN.out, plus_assoc]
          have hG1 : U G1 := hG1' ▸ U.plus _ _
          have cx0 := I.out.own.frm.cell cx id
          have hmono : ¬ N1 < N := by
            have := plus_mono at_ G G1 (hG1' ▸ plus_ge G x hG) ha
            rw [← hN1', ← hN.out] at this
            omega
          have hGl := hG.lt
          have hxl := hx.lt
          have HN := Lib.hid hN1'
          have hcome : n ≤ G1 → comeB N1 true D = true := fun hle => by
            have := plus_mono at_ n G1 hle ha
            rw [← HD.out, ← HN.out] at this
            simp [comeB, this]
          have hstuck : G1 < n → comeB N1 true D = true → N1 = 18446744073709551615 := fun hlt hc => by
            have hc' : D ≤ N1 := by simpa [comeB] using hc
            rw [HN.out, HD.out] at hc'
            rw [HN.out]; exact plus_stuck at_ G1 n hlt hc'
          clear hcell hcells hx0 hN1' hN hlen
          by_cases ho : G + x < 18446744073709551616
          · have eG : G1 = G + x := by rw [hG1']; unfold plus; rw [if_pos ho]
            have ew : IntKind.u64.wrap ((G : Int) + (x : Int)) = (G1 : Int) := by rw [IntKind.wrap_u64]; omega
            have b1 : ¬ G1 < G := by omega
            have EG := Lib.hid eG
            clear hG1' ho eG hGl hxl
            by_cases hn1 : n ≤ G1
            · have hB := hcome hn1
              clear hcome hstuck
              go_wp2_with (first | (go_at_call 37; refine (tick_any _ _ _ _ _ _ x hx _ I.out.own.clk).mono ?_; rw [hN1]; rintro e w5 ⟨rfl, hc, hf⟩; have I5 := Lib.hid (I.out.tick hc hf); have cx5 := I5.out.own.frm.cell cx id; have q0 := I5.out.c0; have q1 := I5.out.c1; clear hc hf) | (go_at_call 40; refine (come_any _ _ _ _ _ _ true D _ I5.out.own.clk).mono ?_; rw [hB]; rintro e w6 ⟨rfl, hf⟩; have I6 := Lib.hid (I5.out.new_ hf); clear hf) | (go_at_call 39; first | ((with_reducible refine (now_any _ _ _ _ _ _ _ I6.out.own.clk).mono ?_); rintro e w' ⟨rfl, rfl⟩) | ((with_reducible refine (now_any _ _ _ _ _ _ _ I5.out.own.clk).mono ?_); rintro e w' ⟨rfl, rfl⟩)))
              go_roundw
              case rel => exact ⟨k + 1, G1, N1, by go_num, by omega, by first | rfl | (rw [EG.out]; rfl), rfl, hG1, HN.out, I6.out⟩
              case measure => simp [intOf]; omega
            · have hn2 : G1 < n := by omega
              by_cases hc : comeB N1 true D = true
              · have b3 : ((N1 : Int) != 18446744073709551615) = false := by have := hstuck hn2 hc; simp; omega
                have hB := hc
                clear hcome hstuck hc
                go_wp2_with (first | (go_at_call 37; refine (tick_any _ _ _ _ _ _ x hx _ I.out.own.clk).mono ?_; rw [hN1]; rintro e w5 ⟨rfl, hc, hf⟩; have I5 := Lib.hid (I.out.tick hc hf); have cx5 := I5.out.own.frm.cell cx id; have q0 := I5.out.c0; have q1 := I5.out.c1; clear hc hf) | (go_at_call 40; refine (come_any _ _ _ _ _ _ true D _ I5.out.own.clk).mono ?_; rw [hB]; rintro e w6 ⟨rfl, hf⟩; have I6 := Lib.hid (I5.out.new_ hf); clear hf) | (go_at_call 39; first | ((with_reducible refine (now_any _ _ _ _ _ _ _ I6.out.own.clk).mono ?_); rintro e w' ⟨rfl, rfl⟩) | ((with_reducible refine (now_any _ _ _ _ _ _ _ I5.out.own.clk).mono ?_); rintro e w' ⟨rfl, rfl⟩)))
                go_roundw
                case rel => exact ⟨k + 1, G1, N1, by go_num, by omega, by first | rfl | (rw [EG.out]; rfl), rfl, hG1, HN.out, I6.out⟩
                case measure => simp [intOf]; omega
              · have hB : comeB N1 true D = false := by simpa using hc
                clear hcome hstuck hc
                go_wp2_with (first | (go_at_call 37; refine (tick_any _ _ _ _ _ _ x hx _ I.out.own.clk).mono ?_; rw [hN1]; rintro e w5 ⟨rfl, hc, hf⟩; have I5 := Lib.hid (I.out.tick hc hf); have cx5 := I5.out.own.frm.cell cx id; have q0 := I5.out.c0; have q1 := I5.out.c1; clear hc hf) | (go_at_call 40; refine (come_any _ _ _ _ _ _ true D _ I5.out.own.clk).mono ?_; rw [hB]; rintro e w6 ⟨rfl, hf⟩; have I6 := Lib.hid (I5.out.new_ hf); clear hf) | (go_at_call 39; first | ((with_reducible refine (now_any _ _ _ _ _ _ _ I6.out.own.clk).mono ?_); rintro e w' ⟨rfl, rfl⟩) | ((with_reducible refine (now_any _ _ _ _ _ _ _ I5.out.own.clk).mono ?_); rintro e w' ⟨rfl, rfl⟩)))
                go_roundw
                case rel => exact ⟨k + 1, G1, N1, by go_num, by omega, by first | rfl | (rw [EG.out]; rfl), rfl, hG1, HN.out, I6.out⟩
                case measure => simp [intOf]; omega
          · have eG : G1 = 18446744073709551615 := by rw [hG1']; unfold plus; rw [if_neg ho]
            obtain ⟨s, hs⟩ : ∃ s, s = G + x - 18446744073709551616 := ⟨_, rfl⟩
            have ew : IntKind.u64.wrap ((G : Int) + (x : Int)) = (s : Int) := by rw [IntKind.wrap_u64]; omega
            have b1 : s < G := by omega
            have hnl := hn.lt
            have b4 : decide ((n : Int) ≤ 18446744073709551615) = true := by simp; omega
            have b5 : decide ((18446744073709551615 : Int) < (n : Int)) = false := by simp; omega
            have hB := hcome (by omega)
            have EG := Lib.hid eG
            clear hG1' ho eG hGl hxl hs hnl hcome hstuck
            go_wp2_with (first | (go_at_call 37; refine (tick_any _ _ _ _ _ _ x hx _ I.out.own.clk).mono ?_; rw [hN1]; rintro e w5 ⟨rfl, hc, hf⟩; have I5 := Lib.hid (I.out.tick hc hf); have cx5 := I5.out.own.frm.cell cx id; have q0 := I5.out.c0; have q1 := I5.out.c1; clear hc hf) | (go_at_call 40; refine (come_any _ _ _ _ _ _ true D _ I5.out.own.clk).mono ?_; rw [hB]; rintro e w6 ⟨rfl, hf⟩; have I6 := Lib.hid (I5.out.new_ hf); clear hf) | (go_at_call 39; first | ((with_reducible refine (now_any _ _ _ _ _ _ _ I6.out.own.clk).mono ?_); rintro e w' ⟨rfl, rfl⟩) | ((with_reducible refine (now_any _ _ _ _ _ _ _ I5.out.own.clk).mono ?_); rintro e w' ⟨rfl, rfl⟩)))
            go_roundw
            case rel => exact ⟨k + 1, G1, N1, by go_num, by omega, by first | rfl | (rw [EG.out]; rfl), rfl, hG1, HN.out, I6.out⟩
            case measure => simp [intOf]; omega
        · obtain rfl : k = len := by omega
          go_wp2_with (go_at_call 35; refine (lives_any _).mono ?_; rintro e w' ⟨rfl, hf⟩)
          go_ret
          exact ⟨rfl, I.out.own.frm.then_ hf⟩
end Go.Proofs.Ytaenclbbiodhfaa.Come
