import Derived.Test.YtmjpaaippilioaaDoorPhD1
import Derived.Test.YtmjpaaippilioaaDoorPhD2
import Derived.Test.YtmjpaaippilioaaDoorPhD3
import Derived.Test.YtmjpaaippilioaaDoorPhD4
import Derived.Test.YtmjpaaippilioaaDoorPhD5
namespace Go.Proofs.YtmjpaaippilioaaDoor
open Go.RowKit

theorem f61n : Tryd.f61.name ≠ "runtime.NumGoroutine" := by decide
theorem f61b : Tryd.f61.body ≠ none := by intro h; cases h
set_option maxRecDepth 100000 in
set_option maxHeartbeats 8000000 in
theorem made_any (A : Option Addr) (n c : Nat) (zs : List Nat) (w : World) (h2 : T2 w) (hr : Rd w w.heap.size 1 A n (bz zs)) (hz : ∀ z ∈ zs, z ≤ 255) (hn : (n : Int) ≤ 100) :
    Calls Tryd.prog 32 #[.slice A n c] w fun e w' => ∃ A' m c' xs, e = .returned (.slice A' m c') ∧ Sl w' w.heap.size 7 A' m c' (opsV xs) ∧ KOk xs ∧ m ≤ 2 * n ∧ Frm w w' fun _ => False := by
  have hlen : n = zs.length := by have := hr.1; simp [bz] at this; omega
  obtain ⟨i50, hi, hz0, hz1, hz2⟩ := info_parts info50
  have HR := Lib.hid hr
  have HZ := Lib.hid hz
  have HLN := Lib.hid hlen
  have H2 := Lib.hid h2
  clear hr hz hlen h2
  go_enter Tryd.func32, Tryd.ntmps32
  go_wp2_with fail
  go_loopw [3, 4, 5] (fun so sh i wr => ∃ (j : Nat) (Ao : Option Addr) (no co : Nat) (xs : List OpR) (Ah : Option Addr) (nh ch : Nat) (hs : List OpR), i = .int .i64 j ∧ j ≤ n ∧ so = .slice Ao no co ∧ sh = .slice Ah nh ch ∧ no ≤ j ∧ nh ≤ j ∧ Sl wr w.heap.size 7 Ao no co (opsV xs) ∧ Sl wr w.heap.size 7 Ah nh ch (opsV hs) ∧ KOk xs ∧ KOk hs ∧ (∀ q, blk Ao q → ¬ blk Ah q) ∧ Frm w wr fun _ => False) (fun _ _ i _ => n - (intOf i).toNat)
  case atStart => exact ⟨0, none, 0, 0, [], none, 0, 0, [], rfl, Nat.zero_le _, rfl, rfl, Nat.le_refl _, Nat.le_refl _, Sl.nil _ _ _, Sl.nil _ _ _, KOk.nil, KOk.nil, fun q hq => (blk_none _ hq).elim, Frm.refl _ _⟩
  case round =>
    obtain ⟨j, Ao, no, co, xs, Ah, nh, ch, hs, rfl, hj, rfl, rfl, hno, hnh, hSo, hSh, hKo, hKh, hdj, hF⟩ := hrel
    have SO := Lib.hid hSo
    have SH := Lib.hid hSh
    have KO := Lib.hid hKo
    have KH := Lib.hid hKh
    have DJ := Lib.hid hdj
    have F := Lib.hid hF
    have j0 : (0 : Int) ≤ (j : Int) := by omega
    have j100 : (j : Int) ≤ 100 := by omega
    have nh0 : (0 : Int) ≤ (nh : Int) := by omega
    have nh1 : (nh : Int) ≤ 100 := by omega
    clear hSo hSh hKo hKh hdj hF
    by_cases hlt : j < n
    · have hlt' : (j : Int) < (n : Int) := by omega
      have hjl : j < zs.length := by rw [← HLN.out]; exact hlt
      obtain ⟨g, off, rfl, -, hc⟩ := HR.out.2 (by rw [HR.out.1]; omega)
      have c0 : wr.cell? ⟨g, off + j, none⟩ = some (.int .u8 (zs[j] : Int)) := F.out.cell (hc j _ (bz_get zs j hjl)) id
      have hx := HZ.out _ (List.getElem_mem hjl)
      obtain ⟨x, hxe⟩ : ∃ x, zs[j] = x := ⟨_, rfl⟩
      rw [hxe] at c0 hx
      have x0 : (0 : Int) ≤ (x : Int) := by omega
      have x1 : (x : Int) ≤ 255 := by omega
      clear hc hxe hjl
      go_upto_if 27 with fail
      go_cut [6] from 11 to 163 (fun s6 wx => ∃ a : Int, s6 = .int .u8 x ∧ wx = wr.alloc (.cells #[.int .u8 0, .int .i64 a, .int .i64 0, .int .i64 (-1), .bool false, .bool false, .int .i64 0] 50))
      case first =>
        by_cases hn0 : nh = 0
        · subst hn0
          go_wp2_with fail
          go_meet
          exact ⟨_, rfl, rfl⟩
        · have n1 : (1 : Int) ≤ (nh : Int) := by omega
          obtain ⟨gh, oh, rfl, _, hgw, hcell, -⟩ := SH.out.form (by have := SH.out.le; omega)
          have hl : nh - 1 < hs.length := by have := SH.out.len; rw [opsV_len] at this; omega
          have c1 : wr.cell? ⟨gh, oh + (nh - 1) * 7 + 1, none⟩ = some (.int .i64 hs[nh - 1].a) := by
            have := flat_get OpR.cs 7 OpR.cs_len hs (nh - 1) 1 hl (by decide)
            have := hcell ((nh - 1) * 7 + 1) _ (this.trans rfl)
            rw [Nat.add_assoc]; exact this
          have e1 : gh ≠ wr.heap.size := by omega
          clear hcell
          go_wp2_with fail
          go_meet
          exact ⟨_, rfl, rfl⟩
      case rest =>
        obtain ⟨a, rfl, rfl⟩ := hcut
        go_upto_block 2 with fail
        go_cut [4, 8, 9] from 11 to 163 (fun s4 s8 s9 wx => SwR w wr Ah j s4 wx)
        case first =>
          rename_i J K' hJ hK
          have h2r := H2.out.new_ F.out
          have hB : w.heap.size ≤ wr.heap.size := F.out.size
          have hjj : j ≤ 100 := by omega
          have hmod : x % 32 = 0 ∨ x % 32 = 1 ∨ x % 32 = 2 ∨ x % 32 = 3 ∨ x % 32 = 4 ∨ x % 32 = 5 ∨ x % 32 = 6 ∨ x % 32 = 7 ∨ x % 32 = 8 ∨ x % 32 = 9 ∨ x % 32 = 10 ∨ x % 32 = 11 ∨ x % 32 = 12 ∨ x % 32 = 13 ∨ x % 32 = 14 ∨ 15 ≤ x % 32 := by omega
          rcases hmod with h | h | h | h | h | h | h | h | h | h | h | h | h | h | h | h
          · exact sw_0 w wr Ah nh ch j x a hs h2r SH.out KH.out hnh hjj hx hB h hJ hK
          · exact sw_1 w wr Ah nh ch j x a hs h2r SH.out KH.out hnh hjj hx hB h hJ hK
          · exact sw_2 w wr Ah nh ch j x a hs h2r SH.out KH.out hnh hjj hx hB h hJ hK
          · exact sw_3 w wr Ah nh ch j x a hs h2r SH.out KH.out hnh hjj hx hB h hJ hK
          · exact sw_4 w wr Ah nh ch j x a hs h2r SH.out KH.out hnh hjj hx hB h hJ hK
          · exact sw_5 w wr Ah nh ch j x a hs h2r SH.out KH.out hnh hjj hx hB h hJ hK
          · exact sw_6 w wr Ah nh ch j x a hs h2r SH.out KH.out hnh hjj hx hB h hJ hK
          · exact sw_7 w wr Ah nh ch j x a hs h2r SH.out KH.out hnh hjj hx hB h hJ hK
          · exact sw_8 w wr Ah nh ch j x a hs h2r SH.out KH.out hnh hjj hx hB h hJ hK
          · exact sw_9 w wr Ah nh ch j x a hs h2r SH.out KH.out hnh hjj hx hB h hJ hK
          · exact sw_10 w wr Ah nh ch j x a hs h2r SH.out KH.out hnh hjj hx hB h hJ hK
          · exact sw_11 w wr Ah nh ch j x a hs h2r SH.out KH.out hnh hjj hx hB h hJ hK
          · exact sw_12 w wr Ah nh ch j x a hs h2r SH.out KH.out hnh hjj hx hB h hJ hK
          · exact sw_13 w wr Ah nh ch j x a hs h2r SH.out KH.out hnh hjj hx hB h hJ hK
          · exact sw_14 w wr Ah nh ch j x a hs h2r SH.out KH.out hnh hjj hx hB h hJ hK
          · exact sw_15 w wr Ah nh ch j x a hs h2r SH.out KH.out hnh hjj hx hB h hJ hK
        case rest =>
          obtain ⟨A2, n2, c2, l2, o, rfl, hn2, hS2, hK2, hbx, ok0, ok1, hA2, hF2⟩ := hcut
          have hsz := hF2.size
          have hSO := SO.out.frm hF2 (fun q hq => DJ.out q hq)
          have hdj2 : ∀ q, blk Ao q → ¬ blk A2 q := fun q hq hq2 => by
            rcases hA2 q hq2 with h | h
            · exact DJ.out q hq h
            · exact absurd (SO.out.ge hq).2 (by omega)
          have hFw := F.out.trans hF2 (fun q hq h => absurd (SH.out.ge h).1 (by omega))
          obtain ⟨q, hq⟩ : ∃ q : Nat, o.k = (q : Int) := ⟨o.k.toNat, (Int.toNat_of_nonneg ok0).symm⟩
          have hq8 : q < 256 := by omega
          have HMay := Lib.hid (mayP_any Ut o q hq hq8 wc (H2.out.new_ hFw).t1.tabs (H2.out.new_ hFw).t1.size)
          have b0 := hbx 0 _ rfl
          have b1 := hbx 1 _ rfl
          have b2 := hbx 2 _ rfl
          have b3 := hbx 3 _ rfl
          have b4 := hbx 4 _ rfl
          have b5 := hbx 5 _ rfl
          have b6 := hbx 6 _ rfl
          have SO2 := Lib.hid hSO
          have S2 := Lib.hid hS2
          have K2 := Lib.hid hK2
          have DJ2 := Lib.hid hdj2
          have FW := Lib.hid hFw
          have HON := Lib.hid hno
          have HN2 := Lib.hid hn2
          have hB2 : w.heap.size ≤ wc.heap.size := Nat.le_trans F.out.size hsz
          have HB2 := Lib.hid hB2
          have OK := Lib.hid (KOk.one ok0 ok1)
          obtain ⟨h63, hby⟩ : no + 1 ≤ maxLen ∧ (no + 1) * 48 ≤ 140737488355328 := by unfold maxLen; omega
          clear hS2 hK2 hbx hA2 hF2 hsz hSO hdj2 hFw hq hB2 ok0 ok1
          cases hm : mayO Ut o with
          | true =>
            rw [hm] at HMay
            clear hm
            go_wp2_with (first
              | (go_at_call 46; refine HMay.out.mono ?_; rintro e w4 ⟨rfl, hf⟩; replace hf := Lib.hid hf; have d0 := hf.out.cell b0 id; have d1 := hf.out.cell b1 id; have d2 := hf.out.cell b2 id; have d3 := hf.out.cell b3 id; have d4 := hf.out.cell b4 id; have d5 := hf.out.cell b5 id; have d6 := hf.out.cell b6 id)
              | (at_builtin; refine wpList_append_sl _ rfl (.tmp 160) (.tmp 162) 39 rfl w.heap.size 50 i50 _ 7 48 Tryd.underlying39 hi hz0 hz1 hz2 rfl (by decide) _ _ _ _ rfl ((SO2.out.new_ hf.out).alloc _) _ 1 1 _ rfl (Rd.fresh_at _ 50 _ rfl (by simp)) (OpR.cs_one o) h63 hby (Nat.le_trans (Nat.le_trans HB2.out hf.out.size) (by simp)) ?_; intro A3 c3 w5 hap; replace hap := Lib.hid hap))
            go_roundw
            case rel =>
              obtain ⟨g1, g2, g3⟩ := hap.out
              have hW5 : Frm wc w5 (blk Ao) := (hf.out.none_ _).then_ ((((Frm.refl w4 fun _ => False).alloc _).none_ _).then_ g2)
              have hz4 := hf.out.size
              refine ⟨j + 1, A3, no + 1, c3, xs ++ [o], A2, n2, c2, l2, by go_num, by omega, rfl, rfl, Nat.succ_le_succ HON.out, HN2.out, by rw [opsV_snoc]; exact g1, S2.out.frm hW5 (fun q hq h => DJ2.out q h hq), KO.out.app OK.out, K2.out, fun q hq hq2 => ?_, FW.out.trans hW5 (fun q hq h => absurd (SO2.out.ge h).1 (by omega))⟩
              rcases g3 q hq with h | h
              · exact DJ2.out q h hq2
              · have := (S2.out.ge hq2).2
                have : w4.heap.size ≤ q := Nat.le_trans ((Frm.refl w4 fun _ => False).alloc _).size h
                omega
            case measure => simp [intOf]; omega
          | false =>
            rw [hm] at HMay
            clear hm
            go_wp2_with (go_at_call 46; refine HMay.out.mono ?_; rintro e w4 ⟨rfl, hf⟩)
            go_roundw
            case rel => exact ⟨j + 1, Ao, no, co, xs, A2, n2, c2, l2, by go_num, by omega, rfl, rfl, Nat.le_succ_of_le HON.out, HN2.out, SO2.out.new_ hf, S2.out.new_ hf, KO.out, K2.out, DJ2.out, FW.out.then_ hf⟩
            case measure => simp [intOf]; omega
    · obtain rfl : j = n := by omega
      clear hlt hj
      have hl : hs.length = nh := by have := SH.out.len; rw [opsV_len] at this; omega
      have HL := Lib.hid hl
      have HNO := Lib.hid hno
      have HNH := Lib.hid hnh
      have hB : w.heap.size ≤ wr.heap.size := F.out.size
      have HB := Lib.hid hB
      obtain ⟨W, hWr⟩ : ∃ W, W = wr := ⟨_, rfl⟩
      rw [← hWr] at SO SH F HB
      have HW := Lib.hid hWr
      clear hl hno hnh hB hWr
      go_wp2_with fail
      rw [← HW.out]
      go_loopw [3, 10] (fun so i wr => ∃ (k : Nat) (Ao : Option Addr) (no co : Nat) (xs : List OpR), i = .int .i64 ((k : Int) - 1) ∧ k ≤ nh ∧ so = .slice Ao no co ∧ no + k ≤ j + nh ∧ Sl wr w.heap.size 7 Ao no co (opsV xs) ∧ KOk xs ∧ (∀ q, blk Ao q → ¬ blk Ah q) ∧ Sl wr w.heap.size 7 Ah nh ch (opsV hs) ∧ Frm w wr fun _ => False) (fun _ i _ => (intOf i + 1).toNat)
      case atStart => exact ⟨nh, Ao, no, co, xs, rfl, Nat.le_refl _, rfl, by have := HNO.out; omega, SO.out, KO.out, DJ.out, SH.out, F.out⟩
      case round =>
        clear SO SH KO DJ HNO HW HB
        obtain ⟨k, Ao, no, co, xs, rfl, hk, rfl, hnk, hSo, hKo, hdj, hSh, hF⟩ := hrel
        have SO := Lib.hid hSo
        have KO := Lib.hid hKo
        have DJ := Lib.hid hdj
        have SH := Lib.hid hSh
        have F := Lib.hid hF
        have k0 : (0 : Int) ≤ (k : Int) := by omega
        have k1 : (k : Int) ≤ (nh : Int) := by omega
        clear hSo hKo hdj hSh hF
        by_cases h7 : j % 7 = 0
        · have h7' : (j : Int) % 7 = 0 := by omega
          have HNK := Lib.hid hnk
          have HNH2 := HNH.out
          by_cases hk0 : k = 0
          · subst hk0
            clear h7
            go_wp2_with fail
            go_ret
            exact ⟨Ao, no, co, xs, rfl, SO.out, KO.out, by have := HNK.out; omega, F.out⟩
          · have hk1 : (0 : Int) ≤ (k : Int) - 1 := by omega
            clear h7
            go_wp2_with fail
            go_ret
            exact ⟨Ao, no, co, xs, rfl, SO.out, KO.out, by have := HNK.out; omega, F.out⟩
        · have h7' : (0 : Int) < (j : Int) % 7 := by omega
          have HNK := Lib.hid hnk
          have HNH2 := HNH.out
          by_cases hk0 : k = 0
          · subst hk0
            clear h7
            go_wp2_with fail
            go_ret
            exact ⟨Ao, no, co, xs, rfl, SO.out, KO.out, by have := HNK.out; omega, F.out⟩
          · have hk1 : (0 : Int) ≤ (k : Int) - 1 := by omega
            have hk2 : (k : Int) - 1 < (nh : Int) := by omega
            obtain ⟨gh, oh, rfl, _, hgw, hcell, -⟩ := SH.out.form (by have := SH.out.le; omega)
            have hl : k - 1 < hs.length := by have := HL.out; omega
            obtain ⟨q0, q1⟩ := KH.out _ (List.getElem_mem hl)
            obtain ⟨q, hq⟩ : ∃ q : Nat, hs[k - 1].k = (q : Int) := ⟨hs[k - 1].k.toNat, (Int.toNat_of_nonneg q0).symm⟩
            obtain ⟨y, hy⟩ : ∃ y : Int, hs[k - 1].a = y := ⟨_, rfl⟩
            have c0 : wr.cell? ⟨gh, oh + (k - 1) * 7, none⟩ = some (.int .u8 q) := by
              have := flat_get OpR.cs 7 OpR.cs_len hs (k - 1) 0 hl (by decide)
              rw [Nat.add_zero] at this
              rw [← hq]
              exact hcell ((k - 1) * 7) _ (this.trans rfl)
            have c1 : wr.cell? ⟨gh, oh + (k - 1) * 7 + 1, none⟩ = some (.int .i64 y) := by
              have := flat_get OpR.cs 7 OpR.cs_len hs (k - 1) 1 hl (by decide)
              have := hcell ((k - 1) * 7 + 1) _ (this.trans rfl)
              rw [Nat.add_assoc, ← hy]; exact this
            rw [hq] at q1
            have hbk := backO_le q
            obtain ⟨z, hzq⟩ : ∃ z, backO q = z := ⟨_, rfl⟩
            have hback := fun v => back_any q q1 v
            rw [hzq] at hback hbk
            have HBK := Lib.hid hback
            obtain ⟨h63, hby⟩ : no + 1 ≤ maxLen ∧ (no + 1) * 48 ≤ 140737488355328 := by unfold maxLen; omega
            have HB2 := Lib.hid (show w.heap.size ≤ wr.heap.size from F.out.size)
            clear h7 hcell hq q0 hy hzq hback
            go_upto_region 50 with fail
            go_region_law (first
              | (refine step_call1 rfl 61 Tryd.func61 f61n f61b (.tmp 182) _ rfl (.int .u8 q) rfl (HBK.out _) ?_; rintro e w5 ⟨rfl, rfl⟩; refine ⟨_, rfl, ?_⟩)
              | (refine step_append_sl _ rfl (.tmp 177) (.tmp 190) 39 rfl w.heap.size 50 i50 _ 7 48 Tryd.underlying39 hi hz0 hz1 hz2 rfl (by decide) _ _ _ _ rfl (SO.out.new_ (by (repeat (first | exact Frm.refl _ _ | apply Frm.drew | apply Frm.alloc)))) _ 1 1 _ rfl (Rd.fresh_at _ 50 _ rfl (by simp)) (OpR.cs_one ⟨(z : Int), y, 0, -1, false, false, 0⟩) h63 hby (Nat.le_trans HB2.out (by simp)) ?_; intro A3 c3 w5 hap; replace hap := Lib.hid hap))
            all_goals
              dsimp [Act.put]
              go_wp2_with fail
              go_roundw
              case rel =>
                obtain ⟨g1, g2, g3⟩ := hap.out
                have hW5 : Frm wr w5 (blk Ao) := Frm.then_ (Frm.none_ (by (repeat (first | exact Frm.refl _ _ | apply Frm.drew | apply Frm.alloc))) _) g2
                refine ⟨k - 1, A3, no + 1, c3, xs ++ [⟨(z : Int), y, 0, -1, false, false, 0⟩], by go_num, by omega, rfl, by have := HNK.out; omega, by rw [opsV_snoc]; exact g1, KO.out.app (KOk.one (show (0 : Int) ≤ (z : Int) by omega) (show (z : Int) ≤ 255 by omega)), fun q hq hq2 => ?_, SH.out.frm hW5 (fun q hq h => DJ.out q h hq), F.out.trans hW5 (fun q hq h => absurd (SO.out.ge h).1 (by omega))⟩
                rcases g3 q hq with h | h
                · exact DJ.out q h hq2
                · have h1 := (SH.out.ge hq2).2
                  have h2 : wr.heap.size ≤ q := Nat.le_trans (by simp) h
                  omega
              case measure => simp [intOf]; omega
end Go.Proofs.YtmjpaaippilioaaDoor
