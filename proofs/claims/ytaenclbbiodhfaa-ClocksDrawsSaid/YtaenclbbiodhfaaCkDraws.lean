import Derived.Test.YtaenclbbiodhfaaCkG
namespace Go.Proofs.Ytaenclbbiodhfaa.Draws
open Go.RowKit Go.Proofs.Ytaenclbbiodhfaa

set_option maxRecDepth 100000 in
set_option maxHeartbeats 4000000 in
theorem walk (A0 : Option Addr) (len cap0 : Nat) (l : List Nat) (lt most : Nat) (hlt : (lt : Int) ≤ 255) (hm : U most) (w : World) (hr : Rd w w.heap.size 1 A0 len (us l)) (hc : len ≤ cap0) (hmx : cap0 ≤ 9223372036854775807) (hu : ∀ d ∈ l, U d) :
    Calls Try.prog 8 #[.slice A0 len cap0, .int .u8 lt, .int .u64 most] w fun e w' => e = .returned (.bool true) ∧ Frm w w' fun _ => False := by
  by_cases h100 : (300 : Int) < (len : Int)
  · go_enter Try.func8, Try.ntmps8
    go_wp2_with (go_at_call 35; refine (lives_any _).mono ?_; rintro e w' ⟨rfl, hf⟩)
    go_ret
    exact ⟨rfl, hf⟩
  · have h100' : (len : Int) ≤ 300 := by omega
    clear h100
    have hl0 : (0 : Int) ≤ (lt : Int) := by omega
    obtain ⟨M, hM⟩ : ∃ M, M = min lt len := ⟨_, rfl⟩
    have hmin : ∀ ts t w, (Builtin.min_ ts t #[.int .i64 (lt : Int), .int .i64 (len : Int)]).run Try.prog w = .ok (.int .i64 (M : Int)) w := fun ts t w => by
      simp [go_sem, hM]
      omega
    obtain ⟨nn, hnn⟩ : ∃ nn, nn = len - M := ⟨_, rfl⟩
    have e1 : (len : Int) - (M : Int) = (nn : Int) := by omega
    have e2 : nn ≤ len := by omega
    have e3 : (0 : Int) ≤ (nn : Int) := by omega
    have e4 : (nn : Int) ≤ (len : Int) := by omega
    have e5 : nn ≤ cap0 := by omega
    have e6 : M ≤ len := by omega
    clear hnn hM
    have hll : len = l.length := (Rd.cells hr).1
    have hR1 : Rd w w.heap.size 1 A0 nn (us (l.take nn)) := by rw [us_take]; simpa using hr.short e2
    have R1 := Lib.hid hR1
    have HU := Lib.hid hu
    have HR := Lib.hid hr
    have ht : (l.take nn).length = nn := by rw [List.length_take]; omega
    have hd : (l.drop nn).length = len - nn := by rw [List.length_drop]; omega
    have HT := Lib.hid ht
    have HD := Lib.hid hd
    have FT : Fit nn (len - nn) := ⟨by omega⟩
    have FT0 : Fit 0 nn := ⟨by omega⟩
    have HL := Lib.hid hll
    clear hR1 hu hr ht hd hll
    go_enter Try.func8, Try.ntmps8
    go_wp2_with fail
    refine (new_len most (l.take nn) nn HT.out _ _ hm w R1.out FT0 (fun d hd => HU.out d (List.mem_of_mem_take hd))).mono ?_
    rintro e w1 ⟨v, rfl, hnew⟩
    obtain ⟨b, A, cap, rfl, O⟩ := Own.of_new hnew
    replace O := Lib.hid O
    clear hnew
    go_wp2_with fail
    refine (left_len b _ _ _ _ _ nn HT.out w1 O.out.clk).mono ?_
    rintro e w' ⟨rfl, rfl⟩
    go_upto_region 7 with fail
    go_cut [8] from 11 to 102 (fun s8 wx => s8 = .pointer (some ⟨b, 0, none⟩) ∧ ∃ A2 cap2, Own w wx b A2 cap2 0 most l)
    case first =>
      by_cases hnl : nn < len
      · obtain ⟨g, off, rfl, hcut⟩ := HR.out.cut (k := nn) (by omega) (by omega)
        rw [Nat.mul_one, ← us_drop] at hcut
        have HC := Lib.hid hcut
        clear hcut
        have e7 : ¬ nn = cap0 := by omega
        have e8 : (nn : Int) ≤ (cap0 : Int) := by omega
        go_wp2_with fail
        refine (more_len b _ _ _ _ _ (l.drop nn) nn _ HT.out HD.out _ _ w1 O.out.clk (HC.out.new_ O.out.frm) FT (fun d hd => HU.out d (List.mem_of_mem_drop hd))).mono ?_
        rw [List.take_append_drop]
        rintro e w2 ⟨rfl, hm2⟩
        obtain ⟨A2, cap2, O2⟩ := O.out.mored hm2
        replace O2 := Lib.hid O2
        clear hm2
        go_wp2_with fail
        go_meet
        exact ⟨rfl, _, _, O2.out⟩
      · have hz : len - nn = 0 := by omega
        have hd0 : us (l.drop nn) = [] := by
          have : l.drop nn = [] := List.eq_nil_of_length_eq_zero (by rw [HD.out]; omega)
          rw [this]; rfl
        have HN := Lib.hid (show ∀ X (w' : World), Rd w' w'.heap.size 1 X (len - nn) (us (l.drop nn)) from fun X w' => by rw [hd0, hz]; exact Rd.nil _ _ _ _)
        have HN0 := Lib.hid (show ∀ X (w' : World), Rd w' w'.heap.size 1 X 0 (us (l.drop nn)) from fun X w' => by rw [hd0]; exact Rd.nil _ _ _ _)
        have HD0 := Lib.hid (show (l.drop nn).length = 0 by rw [HD.out]; omega)
        have F0 : Fit nn 0 := ⟨by have := FT.le; omega⟩
        clear hd0 hz
        by_cases hcc : nn = cap0
        · subst hcc
          go_wp2_with fail
          refine (more_len b _ _ _ _ _ (l.drop _) _ 0 HT.out HD0.out _ _ w1 O.out.clk (HN0.out _ _) F0 (fun d hd => HU.out d (List.mem_of_mem_drop hd))).mono ?_
          rw [List.take_append_drop]
          rintro e w2 ⟨rfl, hm2⟩
          obtain ⟨A2, cap2, O2⟩ := O.out.mored hm2
          replace O2 := Lib.hid O2
          clear hm2
          go_wp2_with fail
          go_meet
          exact ⟨rfl, _, _, O2.out⟩
        · have e8 : (nn : Int) ≤ (cap0 : Int) := by omega
          go_wp2_with fail
          refine (more_len b _ _ _ _ _ (l.drop nn) nn _ HT.out HD.out _ _ w1 O.out.clk (HN.out _ _) FT (fun d hd => HU.out d (List.mem_of_mem_drop hd))).mono ?_
          rw [List.take_append_drop]
          rintro e w2 ⟨rfl, hm2⟩
          obtain ⟨A2, cap2, O2⟩ := O.out.mored hm2
          replace O2 := Lib.hid O2
          clear hm2
          go_wp2_with fail
          go_meet
          exact ⟨rfl, _, _, O2.out⟩
    case rest =>
      obtain ⟨rfl, A2, cap2, hO⟩ := hcut
      have O2 := Lib.hid hO
      clear hO O
      go_wp2_with fail
      go_loopw [9, 10] (fun i z wr => ∃ (k : Nat) (A : Option Addr) (cap : Nat), i = .int .i64 k ∧ k ≤ len ∧ Own w wr b A cap 0 most (l.drop k)) (fun i _ _ => len - (intOf i).toNat)
      case atStart => exact ⟨0, _, _, rfl, Nat.zero_le _, O2.out⟩
      case round =>
        obtain ⟨k, A3, cap3, rfl, hk, hI⟩ := hrel
        have I := Lib.hid hI
        clear hI O2
        by_cases hlt : k < len
        · obtain ⟨hlen, hcells⟩ := Rd.cells HR.out
          obtain ⟨g, off, rfl, hcell⟩ := hcells (by omega)
          have hkl : k < l.length := by omega
          obtain ⟨x, hx0⟩ : ∃ x, x = l[k] := ⟨_, rfl⟩
          have cx := hcell k hkl
          rw [← hx0] at cx
          have hx : U x := hx0 ▸ HU.out _ (List.getElem_mem hkl)
          have hdr : l.drop k = x :: l.drop (k + 1) := by rw [hx0]; exact List.drop_eq_getElem_cons hkl
          have i0 : (0 : Int) ≤ (k : Int) := by omega
          have i1 : (k : Int) < (len : Int) := by omega
          obtain ⟨q, hq0⟩ : ∃ q, q = len - k := ⟨_, rfl⟩
          have e9 : (len : Int) - (k : Int) = (q : Int) := by omega
          have hq := Lib.hid (show (l.drop k).length = q by rw [List.length_drop]; omega)
          have htl : (l.drop k).tail = l.drop (k + 1) := by rw [hdr]; rfl
          have cx0 := I.out.frm.cell cx id
          have hxl := hx.lt
          clear hcell hcells hx0 hq0 hlen e1 e3 e4
          rcases big_or_small hm with hb | hb
          · have hdv : drawOf most (l.drop k) = x := by rw [hdr]; exact drawOf_big hb
            have ew : IntKind.u64.wrap ((most : Int) + 1) = 0 := by rw [IntKind.wrap_u64, hb.eq]; decide
            have b1 : ¬ most < x := by have := hb.eq; omega
            have b2 : x ≤ most := by omega
            clear hdr hxl
            go_wp2_with (first | (go_at_call 41; refine (left_len _ _ _ _ _ _ q hq.out _ I.out.clk).mono ?_; rintro e w' ⟨rfl, rfl⟩) | (go_at_call 43; refine (draw_any _ _ _ most _ _ _ I.out.clk).mono ?_; rw [hdv, htl]; rintro e w5 ⟨rfl, hd⟩; obtain ⟨A5, cap5, I5⟩ := I.out.drawn hd; replace I5 := Lib.hid I5; have cx5 := I5.out.frm.cell cx id; clear hd))
            go_roundw
            case rel => exact ⟨k + 1, _, _, by go_num, by omega, I5.out⟩
            case measure => simp [intOf]; omega
          · have hdv0 : drawOf most (l.drop k) = x % (most + 1) := by rw [hdr]; exact drawOf_small hb
            have hbl := hb.lt
            have ew : IntKind.u64.wrap ((most : Int) + 1) = ((most + 1 : Nat) : Int) := by rw [IntKind.wrap_u64]; omega
            by_cases hxm : x ≤ most
            · have hmod : x % (most + 1) = x := Nat.mod_eq_of_lt (by omega)
              have hdv : drawOf most (l.drop k) = x := by rw [hdv0, hmod]
              have b1 : ¬ most < x := by omega
              have m1 : (x : Int) % ((most : Int) + 1) = (x : Int) := by have := congrArg (Nat.cast (R := Int)) hmod; simpa using this
              have m2 : ((most : Int) + 1 != 0) = true := by simp; omega
              have m3 : ¬ (most : Int) + 1 = 0 := by omega
              clear hdr hxl hdv0 hbl
              go_wp2_with (first | (go_at_call 41; refine (left_len _ _ _ _ _ _ q hq.out _ I.out.clk).mono ?_; rintro e w' ⟨rfl, rfl⟩) | (go_at_call 43; refine (draw_any _ _ _ most _ _ _ I.out.clk).mono ?_; rw [hdv, htl]; rintro e w5 ⟨rfl, hd⟩; obtain ⟨A5, cap5, I5⟩ := I.out.drawn hd; replace I5 := Lib.hid I5; have cx5 := I5.out.frm.cell cx id; clear hd))
              go_roundw
              case rel => exact ⟨k + 1, _, _, by go_num, by omega, I5.out⟩
              case measure => simp [intOf]; omega
            · obtain ⟨dv, hmod'⟩ : ∃ dv, dv = x % (most + 1) := ⟨_, rfl⟩
              have hmod : x % (most + 1) = dv := hmod'.symm
              have hdv : drawOf most (l.drop k) = dv := by rw [hdv0, hmod]
              have hml : x % (most + 1) < most + 1 := Nat.mod_lt _ (by omega)
              have b1 : ¬ most < dv := by omega
              have b2 : most < x := by omega
              have m1 : (x : Int) % ((most : Int) + 1) = (dv : Int) := by have := congrArg (Nat.cast (R := Int)) hmod; simpa using this
              have m2 : ((most : Int) + 1 != 0) = true := by simp; omega
              have m3 : ¬ (most : Int) + 1 = 0 := by omega
              clear hdr hxl hdv0 hbl hml hmod' hxm
              go_wp2_with (first | (go_at_call 41; refine (left_len _ _ _ _ _ _ q hq.out _ I.out.clk).mono ?_; rintro e w' ⟨rfl, rfl⟩) | (go_at_call 43; refine (draw_any _ _ _ most _ _ _ I.out.clk).mono ?_; rw [hdv, htl]; rintro e w5 ⟨rfl, hd⟩; obtain ⟨A5, cap5, I5⟩ := I.out.drawn hd; replace I5 := Lib.hid I5; have cx5 := I5.out.frm.cell cx id; clear hd))
              go_roundw
              case rel => exact ⟨k + 1, _, _, by go_num, by omega, I5.out⟩
              case measure => simp [intOf]; omega
        · obtain rfl : k = len := by omega
          have hdr : l.drop k = [] := List.eq_nil_of_length_eq_zero (by rw [List.length_drop]; have := HL.out; omega)
          have I' : Own w wr b A3 cap3 0 most [] := by have := I.out; rw [hdr] at this; exact this
          replace I' := Lib.hid I'
          have hdv : drawOf most [] = 0 := rfl
          clear I hdr e1 e3 e4
          go_wp2_with (first
            | (go_at_call 35; refine (lives_any _).mono ?_; rintro e w6 ⟨rfl, hf⟩; have F6 := Lib.hid (I5.out.frm.then_ hf); clear hf)
            | (go_at_call 43; refine (draw_any _ _ _ most _ _ _ I'.out.clk).mono ?_; rw [hdv]; rintro e w5 ⟨rfl, hd⟩; obtain ⟨A5, cap5, I5⟩ := I'.out.drawn hd; replace I5 := Lib.hid I5; clear hd)
            | (go_at_call 41; first | ((with_reducible refine (left_len _ _ _ _ _ _ 0 rfl _ I5.out.clk).mono ?_); rintro e w' ⟨rfl, rfl⟩) | ((with_reducible refine (left_len _ _ _ _ _ _ 0 rfl _ I'.out.clk).mono ?_); rintro e w' ⟨rfl, rfl⟩)))
          go_ret
          exact ⟨rfl, F6.out⟩
end Go.Proofs.Ytaenclbbiodhfaa.Draws
