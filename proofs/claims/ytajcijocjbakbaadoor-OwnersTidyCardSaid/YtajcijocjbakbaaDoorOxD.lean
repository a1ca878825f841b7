import Derived.Test.YtajcijocjbakbaaDoorOxC
namespace Go.Proofs.YtajcijocjbakbaaDoor
open Go.RowKit

def hadF (l : List (Th × Value)) (o : Int) (k j : Nat) : Value := .bool (if j < k then md l (o, 1024 + 4 * (j : Int)) != 0 else false)
def modF (l : List (Th × Value)) (o : Int) (k j : Nat) : Value := .int .u8 (if j < k then md l (o, 1056 + 4 * (j : Int)) else 0)
theorem St2.store {w0 w : World} {s : Nat} {g : Option Nat} {l : List (Th × Value)} {b1 b2 : Nat} {f1 f2 f1' f2' : Nat → Value} (h : St2 w0 w s g l b1 b2 f1 f2) {k : Nat} (hk : k < 8) (h1 : w0.heap.size ≤ b1) (h2 : w0.heap.size ≤ b2) (hne : b1 ≠ b2) (u v : Value)
    (e1 : ∀ j, j < 8 → (if j = k then u else f1 j) = f1' j) (e2 : ∀ j, j < 8 → (if j = k then v else f2 j) = f2' j) : St2 w0 ((w.setCell ⟨b1, k, none⟩ u).setCell ⟨b2, k, none⟩ v) s g l b1 b2 f1' f2' := by
  have hf : Frm w ((w.setCell ⟨b1, k, none⟩ u).setCell ⟨b2, k, none⟩ v) fun j => j = b1 ∨ j = b2 := ((Frm.refl w _).setCell (p := ⟨b1, k, none⟩) (fun _ => .inl rfl) u).setCell (p := ⟨b2, k, none⟩) (fun _ => .inr rfl) v
  refine ⟨⟨h.st.bk.frm hf (fun hs => hs.elim h.s1 h.s2) (fun b e hs => ?_), h.st.frm.trans hf (fun j hj hs => ?_), h.st.low, h.st.lowg⟩, ?_, ?_, h.s1, h.s2, h.g1, h.g2⟩
  · rcases hs with rfl | rfl
    · exact h.g1 e
    · exact h.g2 e
  · omega
  · exact ((h.v1.set hk u).far (p := ⟨b2, k, none⟩) (fun e => hne e.symm) v).congr e1
  · exact ((h.v2.far (p := ⟨b1, k, none⟩) hne u).set hk v).congr e2
set_option maxRecDepth 100000 in
set_option maxHeartbeats 0 in
theorem tidy_any (w0 : World) (h1 : T1 w0) (A : Option Addr) (n c : Nat) (xs : List OpR) (hr : Rd w0 w0.heap.size 7 A n (xs.flatMap OpR.cs)) (hk : ∀ x ∈ xs, 0 ≤ x.k ∧ x.k ≤ 255) (Z : Option Addr) (m cz : Nat) (ys : List OpR)
    (hr2 : Rd w0 w0.heap.size 7 Z m (ys.flatMap OpR.cs)) (hk2 : ∀ x ∈ ys, 0 ≤ x.k ∧ x.k ≤ 255) (z : Nat) (hz : z ≤ 255) : Calls Tryd.prog 4 #[.slice A n c, .slice Z m cz, .int .u8 (z : Int)] w0 fun e w' => e = .returned (.bool true) ∧ Frm w0 w' fun _ => False := by
  obtain ⟨hxl, hxc⟩ := Rd.rows OpR.cs_len (by decide) hr
  obtain ⟨hyl, hyc⟩ := Rd.rows OpR.cs_len (by decide) hr2
  have HXL := Lib.hid hxl
  have HXC := Lib.hid hxc
  have HYL := Lib.hid hyl
  have HYC := Lib.hid hyc
  have HRX := Lib.hid hr
  have HK := Lib.hid hk
  have HK2 := Lib.hid hk2
  have H1 := Lib.hid h1
  have hL := lives_any w0 h1.t0
  have hN := New.st w0
  clear hxl hxc hyl hyc hk hk2 h1 hr hr2
  by_cases hn : n ≤ 200
  · by_cases hm : m ≤ 100
    · have e1 : decide ((200 : Int) < (n : Int)) = false := by rw [decide_eq_false_iff_not]; omega
      have e2 : decide ((100 : Int) < (m : Int)) = false := by rw [decide_eq_false_iff_not]; omega
      have hn' : (n : Int) ≤ 200 := by omega
      have hm' : (m : Int) ≤ 100 := by omega
      obtain ⟨s, hs⟩ : ∃ s, w0.heap.size = s := ⟨_, rfl⟩
      rw [hs] at hN
      have HWS := Lib.hid hs
      have z0 : (0 : Int) ≤ (z : Int) := by omega
      have z1 : (z : Int) ≤ 255 := by omega
      have y0 : (z : Int).tmod 64 = ((z % 64 : Nat) : Int) := by rw [Int.tmod_eq_emod_of_nonneg (by omega)]; rfl
      obtain ⟨wh, hwh⟩ : ∃ t, z % 64 = t := ⟨_, rfl⟩
      rw [hwh] at y0
      have y1 : ((wh : Int) + 1).tmod 64 = (((wh + 1) % 64 : Nat) : Int) := by rw [Int.tmod_eq_emod_of_nonneg (by omega)]; rfl
      obtain ⟨ot, hot⟩ : ∃ t, (wh + 1) % 64 = t := ⟨_, rfl⟩
      rw [hot] at y1
      have wh0 : (0 : Int) ≤ (wh : Int) := by omega
      have wh1 : (wh : Int) < 64 := by omega
      have ot0 : (0 : Int) ≤ (ot : Int) := by omega
      have ot1 : (ot : Int) < 64 := by omega
      have HNE := Lib.hid (show (ot : Int) ≠ (wh : Int) by omega)
      clear hn hm hs hL hz hwh hot
      go_enter Tryd.func4, Tryd.ntmps4
      go_upto_region 6 with (go_at_call 6; refine hN.mono ?_; rintro e w ⟨rfl, hS⟩)
      go_wp2_with fail
      go_loopw [10] (fun i wr => ∃ (k : Nat) (g : Option Nat) (l : List (Th × Value)), i = .int .i64 k ∧ k ≤ m ∧ St w0 wr s g l ∧ ∀ p ∈ l, p.1.1 = (ot : Int)) (fun i _ => m - (intOf i).toNat)
      case atStart => exact ⟨0, none, [], rfl, Nat.zero_le _, hS, fun _ h => by cases h⟩
      case round =>
        clear hS hN
        obtain ⟨k, g, l, rfl, hkm, hS, hKO⟩ := hrel
        have HS := Lib.hid hS
        have HKO := Lib.hid hKO
        clear hS hKO
        by_cases hlk : k < m
        · -- one more of 'ahead'
          have k0 : (0 : Int) ≤ (k : Int) := by omega
          have k1 : (k : Int) < (m : Int) := by omega
          obtain ⟨gx, ox, rfl, -, hxc⟩ := HYC.out (by omega)
          have hkx : k < ys.length := by have := HYL.out; omega
          have hcx := hxc k hkx
          obtain ⟨hq0, hq1⟩ := HK2.out _ (List.getElem_mem hkx)
          obtain ⟨X, hX⟩ : ∃ x, ys[k] = x := ⟨_, rfl⟩
          rw [hX] at hcx hq0 hq1
          obtain ⟨q, hXk⟩ : ∃ q : Nat, X.k = (q : Int) := ⟨X.k.toNat, (Int.toNat_of_nonneg hq0).symm⟩
          have hq8 : q < 256 := by omega
          have HXe := Lib.hid hX
          have HXk := Lib.hid hXk
          have HX0 := Lib.hid hq0
          obtain ⟨⟨xk, xa, xo, xt, xfl, xfa, xg⟩, hXX⟩ : ∃ Y, Y = X := ⟨_, rfl⟩
          have hqk : xk = (q : Int) := by rw [← hXX] at hXk; exact hXk
          subst hqk
          rw [← hXX] at hcx
          have HXX := Lib.hid hXX
          have HC := Lib.hid hcx
          have q0 : (0 : Int) ≤ (q : Int) := by omega
          have q1 : (q : Int) < 256 := by omega
          clear hxc hcx hq0 hq1 hX hXk hXX
          have x0 : wr.cell? ⟨gx, ox + k * 7, none⟩ = some (.int .u8 (q : Int)) := HS.out.frm.cell (HC.out 0 _ rfl) id
          have x1 : wr.cell? ⟨gx, ox + k * 7 + 1, none⟩ = some (.int .i64 xa) := HS.out.frm.cell (HC.out 1 _ rfl) id
          have x2 : wr.cell? ⟨gx, ox + k * 7 + 2, none⟩ = some (.int .i64 xo) := HS.out.frm.cell (HC.out 2 _ rfl) id
          have x3 : wr.cell? ⟨gx, ox + k * 7 + 3, none⟩ = some (.int .i64 xt) := HS.out.frm.cell (HC.out 3 _ rfl) id
          have x4 : wr.cell? ⟨gx, ox + k * 7 + 4, none⟩ = some (.bool xfl) := HS.out.frm.cell (HC.out 4 _ rfl) id
          have x5 : wr.cell? ⟨gx, ox + k * 7 + 5, none⟩ = some (.bool xfa) := HS.out.frm.cell (HC.out 5 _ rfl) id
          have x6 : wr.cell? ⟨gx, ox + k * 7 + 6, none⟩ = some (.int .i64 xg) := HS.out.frm.cell (HC.out 6 _ rfl) id
          have hD : Calls Tryd.prog 9 #[.pointer (some ⟨s, 0, none⟩), .int .i64 ot, .agg #[.int .u8 q, .int .i64 xa, .int .i64 xo, .int .i64 xt, .bool xfl, .bool xfa, .int .i64 xg], .int .i64 0] wr fun e w' => e = .returned (.bool (canO Ut At l ot X == 0)) ∧ ∃ g', St w0 w' s g' (didS l ot X) := by
            have := HS.out.didS_any H1.out.t0 ot ot0 ot1 X q HXk.out hq8
            rw [← HXX.out] at this ⊢
            exact this
          go_wp2_with (go_at_call 9; refine hD.mono ?_; rintro e w2 ⟨rfl, g', hS2⟩)
          go_roundw
          case rel => exact ⟨k + 1, g', _, by go_num, by omega, hS2, didS_keys l ot X HKO.out⟩
          case measure => simp [intOf]; omega
        · obtain rfl : k = m := by omega
          go_upto_region 12 with fail
          refine at_world' ?_
          intro W hW
          have hG : Frm wr W fun _ => False := by
            rw [hW]
            repeat (first | exact Frm.refl _ _ | with_reducible refine Frm.alloc ?_ _)
          have hV1 : Var W wr.heap.size 8 (hadF l ot 0) := by
            rw [hW]
            refine (Var.new wr 43 _ fun i hi => ?_).alloc _
            match i, hi with
            | 0, _ => rfl
            | 1, _ => rfl
            | 2, _ => rfl
            | 3, _ => rfl
            | 4, _ => rfl
            | 5, _ => rfl
            | 6, _ => rfl
            | 7, _ => rfl
          have hV2 : Var W (wr.heap.size + 1) 8 (modF l ot 0) := by
            rw [hW]
            have e : wr.heap.size + 1 = (wr.alloc (.cells #[.bool false, .bool false, .bool false, .bool false, .bool false, .bool false, .bool false, .bool false] 43)).heap.size := by simp
            rw [e]
            refine Var.new _ 45 _ fun i hi => ?_
            match i, hi with
            | 0, _ => rfl
            | 1, _ => rfl
            | 2, _ => rfl
            | 3, _ => rfl
            | 4, _ => rfl
            | 5, _ => rfl
            | 6, _ => rfl
            | 7, _ => rfl
          have hsl := HS.out.bk.lt
          have hgl : ∀ b, g = some b → b < wr.heap.size := fun b e => (HS.out.bk.map b e).lt
          have hwl := HS.out.frm.size
          have H2 : St2 w0 W s g l wr.heap.size (wr.heap.size + 1) (hadF l ot 0) (modF l ot 0) :=
            ⟨HS.out.new_ hG, hV1, hV2, by omega, by omega, (fun e => by have := hgl _ e; omega), (fun e => by have := hgl _ e; omega)⟩
          obtain ⟨b1, hb1⟩ : ∃ b, wr.heap.size = b := ⟨_, rfl⟩
          rw [hb1] at H2 hwl ⊢
          obtain ⟨b2, hb2⟩ : ∃ b, b1 + 1 = b := ⟨_, rfl⟩
          rw [hb2] at H2 ⊢
          have HL1 := Lib.hid hwl
          have HL2 := Lib.hid (show w0.heap.size ≤ b2 by omega)
          have HN12 := Lib.hid (show b1 ≠ b2 by omega)
          clear hG hV1 hV2 hW hsl hgl hwl hb1 hb2 HS
          go_wp2_with fail
          go_loopw [13] (fun i wr => ∃ k : Nat, i = .int .i64 k ∧ k ≤ 8 ∧ St2 w0 wr s g l b1 b2 (hadF l ot k) (modF l ot k)) (fun i _ => 8 - (intOf i).toNat)
          case atStart => exact ⟨0, rfl, Nat.zero_le _, H2⟩
          case round =>
            clear H2
            obtain ⟨i, rfl, hi8, hS⟩ := hrel
            have HS := Lib.hid hS
            clear hS
            by_cases hi : i < 8
            · have i0 : (0 : Int) ≤ (i : Int) := by omega
              have i1 : (i : Int) < 8 := by omega
              have c1 := HS.out.v1.cell i hi
              have c2 := HS.out.v2.cell i hi
              have r1 := HS.out.v1.free i
              have r2 := HS.out.v2.free i
              have hc1 : hadF l ot i i = .bool false := by unfold hadF; rw [if_neg (Nat.lt_irrefl _)]
              have hc2 : modF l ot i i = .int .u8 0 := by unfold modF; rw [if_neg (Nat.lt_irrefl _)]
              rw [hc1] at c1
              rw [hc2] at c2
              have hMu := mutex_any s g l ot i i0 i1 wr HS.out.st.bk
              obtain ⟨mu, hmu⟩ : ∃ b, (md l ((ot : Int), 1024 + 4 * (i : Int)) != 0) = b := ⟨_, rfl⟩
              obtain ⟨rw_, hrw⟩ : ∃ b, md l ((ot : Int), 1056 + 4 * (i : Int)) = b := ⟨_, rfl⟩
              rw [hmu] at hMu
              have hb12 : b1 ≠ b2 := HN12.out
              have hS1 : ∀ w, w = wr.setCell ⟨b1, i, none⟩ (.bool mu) → Calls Tryd.prog 13 #[.pointer (some ⟨s, 0, none⟩), .int .i64 ot, .int .i64 i] w fun e w' => e = .returned (.int .u8 rw_) ∧ w = w' := fun w hw => by
                have hf : Frm wr w fun j => j = b1 := by rw [hw]; exact (Frm.refl wr (fun j => j = b1)).setCell (p := ⟨b1, i, none⟩) (fun _ => rfl) _
                have := rw_any s g l ot i i0 i1 w (HS.out.st.bk.frm hf HS.out.s1 (fun b e hb => HS.out.g1 (by rw [e, hb])))
                rw [hrw] at this
                exact this
              have hrel' : St2 w0 ((wr.setCell ⟨b1, i, none⟩ (.bool mu)).setCell ⟨b2, i, none⟩ (.int .u8 rw_)) s g l b1 b2 (hadF l ot (i + 1)) (modF l ot (i + 1)) := by
                refine HS.out.store hi HL1.out HL2.out HN12.out _ _ (fun j hj => ?_) (fun j hj => ?_)
                · unfold hadF
                  by_cases e : j = i
                  · subst e
                    rw [if_pos rfl, if_pos (Nat.lt_succ_self _), hmu]
                  · rw [if_neg e]
                    by_cases e2 : j < i
                    · rw [if_pos e2, if_pos (by omega)]
                    · rw [if_neg e2, if_neg (by omega)]
                · unfold modF
                  by_cases e : j = i
                  · subst e
                    rw [if_pos rfl, if_pos (Nat.lt_succ_self _), hrw]
                  · rw [if_neg e]
                    by_cases e2 : j < i
                    · rw [if_pos e2, if_pos (by omega)]
                    · rw [if_neg e2, if_neg (by omega)]
              have HREL := Lib.hid hrel'
              have HS1 := Lib.hid hS1
              clear hmu hrw hc1 hc2 hrel' hS1
              go_wp2_with (first
                | (go_at_call 12; refine hMu.mono ?_; rintro e w2 ⟨rfl, rfl⟩)
                | (go_at_call 13; refine (HS1.out _ rfl).mono ?_; rintro e w2 ⟨rfl, rfl⟩))
              go_roundw
              case rel => exact ⟨i + 1, by go_num, by omega, HREL.out⟩
              case measure => simp [intOf]; omega
            · obtain rfl : i = 8 := by omega
              have HKOp := HKO
              have hTd := tidyp_any A n c xs wr (H1.out.new_ HS.out.st.frm) (HRX.out.new_ HS.out.st.frm) HK.out (by omega)
              obtain ⟨tv, htv⟩ : ∃ b, tidyO xs = b := ⟨_, rfl⟩
              rw [htv] at hTd
              have HTV := Lib.hid htv
              have hInv : Inv [] l (wh : Int) := inv_start l wh fun p hp e => HNE.out ((HKO.out p hp).symm.trans e)
              have HInv := Lib.hid hInv
              clear htv hInv
              go_upto_region 18 with (go_at_call 14; refine hTd.mono ?_; rintro e w3 ⟨rfl, hf⟩)
              replace HS := Lib.hid (HS.out.new_ hf)
              clear hf hTd
              go_wp2_with fail
              go_loopw [15] (fun i wr => ∃ (k : Nat) (g' : Option Nat) (l' : List (Th × Value)), i = .int .i64 k ∧ k ≤ n ∧ St2 w0 wr s g' l' b1 b2 (hadF l ot 8) (modF l ot 8) ∧ (∀ a, md l' ((ot : Int), a) = md l ((ot : Int), a)) ∧ (tv = true → ∃ h, runT [] (xs.take k) = some h ∧ Inv h l' (wh : Int))) (fun i _ => n - (intOf i).toNat)
              case atStart => exact ⟨0, g, l, rfl, Nat.zero_le _, HS.out, fun _ => rfl, fun _ => ⟨[], rfl, HInv.out⟩⟩
              case round =>
                clear HS
                obtain ⟨k, g', l', rfl, hkn, hS, hoth, hinv⟩ := hrel
                have HS := Lib.hid hS
                have HOT := Lib.hid hoth
                have HIN := Lib.hid hinv
                clear hS hoth hinv
                by_cases hlk : k < n
                · -- one more operation
                  have k0 : (0 : Int) ≤ (k : Int) := by omega
                  have k1 : (k : Int) < (n : Int) := by omega
                  obtain ⟨gx, ox, rfl, -, hxc⟩ := HXC.out (by omega)
                  have hkx : k < xs.length := by have := HXL.out; omega
                  have hcx := hxc k hkx
                  obtain ⟨hq0, hq1⟩ := HK.out _ (List.getElem_mem hkx)
                  obtain ⟨X, hX⟩ : ∃ x, xs[k] = x := ⟨_, rfl⟩
                  rw [hX] at hcx hq0 hq1
                  obtain ⟨q, hXk⟩ : ∃ q : Nat, X.k = (q : Int) := ⟨X.k.toNat, (Int.toNat_of_nonneg hq0).symm⟩
                  have hq8 : q < 256 := by omega
                  have HXe := Lib.hid hX
                  have HXk := Lib.hid hXk
                  have HX0 := Lib.hid hq0
                  obtain ⟨⟨xk, xa, xo, xt, xfl, xfa, xg⟩, hXX⟩ : ∃ Y, Y = X := ⟨_, rfl⟩
                  have hqk : xk = (q : Int) := by rw [← hXX] at hXk; exact hXk
                  subst hqk
                  rw [← hXX] at hcx
                  have HXX := Lib.hid hXX
                  have HC := Lib.hid hcx
                  have q0 : (0 : Int) ≤ (q : Int) := by omega
                  have q1 : (q : Int) < 256 := by omega
                  clear hxc hcx hq0 hq1 hX hXk hXX
                  have x0 : wr.cell? ⟨gx, ox + k * 7, none⟩ = some (.int .u8 (q : Int)) := HS.out.st.frm.cell (HC.out 0 _ rfl) id
                  have x1 : wr.cell? ⟨gx, ox + k * 7 + 1, none⟩ = some (.int .i64 xa) := HS.out.st.frm.cell (HC.out 1 _ rfl) id
                  have x2 : wr.cell? ⟨gx, ox + k * 7 + 2, none⟩ = some (.int .i64 xo) := HS.out.st.frm.cell (HC.out 2 _ rfl) id
                  have x3 : wr.cell? ⟨gx, ox + k * 7 + 3, none⟩ = some (.int .i64 xt) := HS.out.st.frm.cell (HC.out 3 _ rfl) id
                  have x4 : wr.cell? ⟨gx, ox + k * 7 + 4, none⟩ = some (.bool xfl) := HS.out.st.frm.cell (HC.out 4 _ rfl) id
                  have x5 : wr.cell? ⟨gx, ox + k * 7 + 5, none⟩ = some (.bool xfa) := HS.out.st.frm.cell (HC.out 5 _ rfl) id
                  have x6 : wr.cell? ⟨gx, ox + k * 7 + 6, none⟩ = some (.int .i64 xg) := HS.out.st.frm.cell (HC.out 6 _ rfl) id
                  have hstep : tv = true → canO Ut At l' wh X = 0 ∧ ∃ h, runT [] (xs.take (k + 1)) = some h ∧ Inv h (didL Ut At l' wh X) (wh : Int) := fun ht => by
                    obtain ⟨h, hr, hi⟩ := HIN.out ht
                    obtain ⟨h', hs', hr'⟩ := tidy_step xs (HTV.out.trans ht) k hkx h hr
                    rw [HXe.out] at hs'
                    obtain ⟨hc, hi'⟩ := step_law h h' l' wh X hi HX0.out hs'
                    exact ⟨hc, h', hr', hi'⟩
                  have HSTEP := Lib.hid hstep
                  have hC : ∀ w, St2 w0 w s g' l' b1 b2 (hadF l ot 8) (modF l ot 8) → Calls Tryd.prog 8 #[.pointer (some ⟨s, 0, none⟩), .int .i64 wh, .agg #[.int .u8 q, .int .i64 xa, .int .i64 xo, .int .i64 xt, .bool xfl, .bool xfa, .int .i64 xg]] w fun e w' => e = .returned (.int .i64 (canO Ut At l' wh X)) ∧ St2 w0 w' s g' l' b1 b2 (hadF l ot 8) (modF l ot 8) := fun w h => by
                    have := h.can H1.out.t0 wh wh0 wh1 X q HXk.out hq8
                    rw [← HXX.out] at this ⊢
                    exact this
                  have hD : ∀ w, St2 w0 w s g' l' b1 b2 (hadF l ot 8) (modF l ot 8) → Calls Tryd.prog 9 #[.pointer (some ⟨s, 0, none⟩), .int .i64 wh, .agg #[.int .u8 q, .int .i64 xa, .int .i64 xo, .int .i64 xt, .bool xfl, .bool xfa, .int .i64 xg], .int .i64 0] w fun e w' => e = .returned (.bool (canO Ut At l' wh X == 0)) ∧ ∃ g2, St2 w0 w' s g2 (didS l' wh X) b1 b2 (hadF l ot 8) (modF l ot 8) := fun w h => by
                    have := h.didS_any H1.out.t0 wh wh0 wh1 X q HXk.out hq8
                    rw [← HXX.out] at this ⊢
                    exact this
                  obtain ⟨cv, hcv⟩ : ∃ v, canO Ut At l' wh X = v := ⟨_, rfl⟩
                  have HCV := Lib.hid hcv
                  rw [hcv] at hC hD
                  have HC8 := Lib.hid hC
                  have HD9 := Lib.hid hD
                  clear hstep hC hD hcv
                  go_upto_region 22 with (go_at_call 8; refine (HC8.out _ HS.out).mono ?_; rintro e w4 ⟨rfl, hS4⟩)
                  replace HS := Lib.hid hS4
                  clear hS4 x0 x1 x2 x3 x4 x5 x6
                  have x0 : w4.cell? ⟨gx, ox + k * 7, none⟩ = some (.int .u8 (q : Int)) := HS.out.st.frm.cell (HC.out 0 _ rfl) id
                  have x1 : w4.cell? ⟨gx, ox + k * 7 + 1, none⟩ = some (.int .i64 xa) := HS.out.st.frm.cell (HC.out 1 _ rfl) id
                  have x2 : w4.cell? ⟨gx, ox + k * 7 + 2, none⟩ = some (.int .i64 xo) := HS.out.st.frm.cell (HC.out 2 _ rfl) id
                  have x3 : w4.cell? ⟨gx, ox + k * 7 + 3, none⟩ = some (.int .i64 xt) := HS.out.st.frm.cell (HC.out 3 _ rfl) id
                  have x4 : w4.cell? ⟨gx, ox + k * 7 + 4, none⟩ = some (.bool xfl) := HS.out.st.frm.cell (HC.out 4 _ rfl) id
                  have x5 : w4.cell? ⟨gx, ox + k * 7 + 5, none⟩ = some (.bool xfa) := HS.out.st.frm.cell (HC.out 5 _ rfl) id
                  have x6 : w4.cell? ⟨gx, ox + k * 7 + 6, none⟩ = some (.int .i64 xg) := HS.out.st.frm.cell (HC.out 6 _ rfl) id
                  by_cases hc0 : cv = 0
                  · subst hc0
                    have hD0 : Calls Tryd.prog 9 #[.pointer (some ⟨s, 0, none⟩), .int .i64 wh, .agg #[.int .u8 q, .int .i64 xa, .int .i64 xo, .int .i64 xt, .bool xfl, .bool xfa, .int .i64 xg], .int .i64 0] w4 fun e w' => e = .returned (.bool true) ∧ ∃ g2, St2 w0 w' s g2 (didS l' wh X) b1 b2 (hadF l ot 8) (modF l ot 8) := HD9.out w4 HS.out
                    have hds : didS l' wh X = didL Ut At l' wh X := by unfold didS; rw [if_pos HCV.out]
                    have HDS := Lib.hid hds
                    clear hds
                    cases tv with
                    | true =>
                      go_wp2_with (go_at_call 9; refine hD0.mono ?_; rintro e w5 ⟨rfl, g2, hS5⟩)
                      go_roundw
                      case rel => exact ⟨k + 1, g2, _, by go_num, by omega, hS5, fun a => (didS_other l' wh ot a X HNE.out).trans (HOT.out a), fun ht => by rw [HDS.out]; exact (HSTEP.out ht).2⟩
                      case measure => simp [intOf]; omega
                    | false =>
                      go_wp2_with (go_at_call 9; refine hD0.mono ?_; rintro e w5 ⟨rfl, g2, hS5⟩)
                      go_roundw
                      case rel => exact ⟨k + 1, g2, _, by go_num, by omega, hS5, fun a => (didS_other l' wh ot a X HNE.out).trans (HOT.out a), fun ht => by cases ht⟩
                      case measure => simp [intOf]; omega
                  · cases tv with
                    | true => exact absurd (HCV.out.symm.trans (HSTEP.out rfl).1) hc0
                    | false =>
                      have e5 : (cv == 0) = false := by rw [beq_eq_false_iff_ne]; exact hc0
                      have hD0 : Calls Tryd.prog 9 #[.pointer (some ⟨s, 0, none⟩), .int .i64 wh, .agg #[.int .u8 q, .int .i64 xa, .int .i64 xo, .int .i64 xt, .bool xfl, .bool xfa, .int .i64 xg], .int .i64 0] w4 fun e w' => e = .returned (.bool false) ∧ ∃ g2, St2 w0 w' s g2 (didS l' wh X) b1 b2 (hadF l ot 8) (modF l ot 8) := by
                        have := HD9.out w4 HS.out
                        rw [e5] at this
                        exact this
                      go_wp2_with (go_at_call 9; refine hD0.mono ?_; rintro e w5 ⟨rfl, g2, hS5⟩)
                      go_roundw
                      case rel => exact ⟨k + 1, g2, _, by go_num, by omega, hS5, fun a => (didS_other l' wh ot a X HNE.out).trans (HOT.out a), fun ht => by cases ht⟩
                      case measure => simp [intOf]; omega
                · obtain rfl : k = n := by omega
                  have hEnd : tv = true → ∀ a, md l' ((wh : Int), a) = 0 := fun ht a => by
                    obtain ⟨h, hr, hi⟩ := HIN.out ht
                    rw [List.take_of_length_le (by have := HXL.out; omega), tidy_end xs (HTV.out.trans ht)] at hr
                    injection hr with hr
                    subst hr
                    exact hi.no a fun w h => by cases h
                  have HEND := Lib.hid hEnd
                  obtain ⟨wl, hwl⟩ : ∃ w, w = wr := ⟨_, rfl⟩
                  rw [← hwl] at HS
                  have hF0 : Frm wl wr fun _ => False := by rw [hwl]; exact Frm.refl _ _
                  clear hEnd hwl
                  go_wp2_with fail
                  go_loopw [17] (fun i wr => ∃ k : Nat, i = .int .i64 k ∧ k ≤ 8 ∧ Frm wl wr fun _ => False) (fun i _ => 8 - (intOf i).toNat)
                  case atStart => exact ⟨0, rfl, Nat.zero_le _, hF0⟩
                  case round =>
                    clear hF0
                    obtain ⟨i, rfl, hi8, hF⟩ := hrel
                    have HSi := Lib.hid (HS.out.new_ hF)
                    have F := Lib.hid hF
                    clear hF
                    by_cases hi : i < 8
                    · have i0 : (0 : Int) ≤ (i : Int) := by omega
                      have i1 : (i : Int) < 8 := by omega
                      obtain ⟨mu, hmu⟩ : ∃ b, (md l ((ot : Int), 1024 + 4 * (i : Int)) != 0) = b := ⟨_, rfl⟩
                      obtain ⟨rw_, hrw⟩ : ∃ b, md l ((ot : Int), 1056 + 4 * (i : Int)) = b := ⟨_, rfl⟩
                      have c1 := HSi.out.v1.cell i hi
                      have c2 := HSi.out.v2.cell i hi
                      have hc1 : hadF l ot 8 i = .bool mu := by unfold hadF; rw [if_pos hi, hmu]
                      have hc2 : modF l ot 8 i = .int .u8 rw_ := by unfold modF; rw [if_pos hi, hrw]
                      rw [hc1] at c1
                      rw [hc2] at c2
                      replace c1 := Grown.cell c1
                      replace c2 := Grown.cell c2
                      have M1 : ∀ F : Grown wr, Calls Tryd.prog 12 #[.pointer (some ⟨s, 0, none⟩), .int .i64 ot, .int .i64 i] F.1 fun e w' => e = .returned (.bool mu) ∧ F.1 = w' := fun F => by
                        have := mutex_any s g' l' ot i i0 i1 F.1 (HSi.out.new_ F.2).st.bk
                        rw [HOT.out, hmu] at this
                        exact this
                      have M2 : ∀ F : Grown wr, Calls Tryd.prog 13 #[.pointer (some ⟨s, 0, none⟩), .int .i64 ot, .int .i64 i] F.1 fun e w' => e = .returned (.int .u8 rw_) ∧ F.1 = w' := fun F => by
                        have := rw_any s g' l' ot i i0 i1 F.1 (HSi.out.new_ F.2).st.bk
                        rw [HOT.out, hrw] at this
                        exact this
                      have HM1 := Lib.hid M1
                      have HM2 := Lib.hid M2
                      clear hc1 hc2 hmu hrw M1 M2
                      cases tv with
                      | true =>
                        have M3 : ∀ F : Grown wr, Calls Tryd.prog 12 #[.pointer (some ⟨s, 0, none⟩), .int .i64 wh, .int .i64 i] F.1 fun e w' => e = .returned (.bool false) ∧ F.1 = w' := fun F => by
                          have := mutex_any s g' l' wh i i0 i1 F.1 (HSi.out.new_ F.2).st.bk
                          rw [HEND.out rfl] at this
                          exact this
                        have M4 : ∀ F : Grown wr, Calls Tryd.prog 13 #[.pointer (some ⟨s, 0, none⟩), .int .i64 wh, .int .i64 i] F.1 fun e w' => e = .returned (.int .u8 0) ∧ F.1 = w' := fun F => by
                          have := rw_any s g' l' wh i i0 i1 F.1 (HSi.out.new_ F.2).st.bk
                          rw [HEND.out rfl] at this
                          exact this
                        have HM3 := Lib.hid M3
                        have HM4 := Lib.hid M4
                        clear M3 M4
                        go_wp2_with fail
                        refine wp_region_grown wr (Frm.refl _ _) (by kernel_rfl) (by kernel_rfl) ?_
                        repeat (go_big_quiet_step (first
                          | (go_at_call 12; with_reducible refine Calls.grown_same (HM1.out _))
                          | (go_at_call 13; with_reducible refine Calls.grown_same (HM2.out _))
                          | (go_at_call 12; with_reducible refine Calls.grown_same (HM3.out _))
                          | (go_at_call 13; with_reducible refine Calls.grown_same (HM4.out _))))
                        refine wpQuiet_nil ?_
                        intro wq2 hq2
                        go_wp2_with fail
                        go_roundw
                        case rel => exact ⟨i + 1, by go_num, by omega, F.out.then_ hq2⟩
                        case measure => simp [intOf]; omega
                      | false =>
                        go_wp2_with fail
                        refine wp_region_grown wr (Frm.refl _ _) (by kernel_rfl) (by kernel_rfl) ?_
                        repeat (go_big_quiet_step (first
                          | (go_at_call 12; with_reducible refine Calls.grown_same (HM1.out _))
                          | (go_at_call 13; with_reducible refine Calls.grown_same (HM2.out _))))
                        refine wpQuiet_nil ?_
                        intro wq2 hq2
                        go_wp2_with fail
                        go_roundw
                        case rel => exact ⟨i + 1, by go_num, by omega, F.out.then_ hq2⟩
                        case measure => simp [intOf]; omega
                    · obtain rfl : i = 8 := by omega
                      have HL5 := Lib.hid (lives_any wr (H1.out.new_ HSi.out.st.frm).t0)
                      go_wp2_with (go_at_call 5; refine HL5.out.mono ?_; rintro e w6 ⟨rfl, hf6⟩)
                      go_ret
                      exact ⟨rfl, HSi.out.st.frm.then_ hf6⟩
    · have e1 : decide ((200 : Int) < (n : Int)) = false := by rw [decide_eq_false_iff_not]; omega
      have e2 : decide ((100 : Int) < (m : Int)) = true := by rw [decide_eq_true_eq]; omega
      clear hN hm hn
      go_enter Tryd.func4, Tryd.ntmps4
      go_wp2_with (go_at_call 5; refine hL.mono ?_; rintro e w2 ⟨rfl, hf⟩)
      go_ret
      exact ⟨rfl, hf⟩
  · have e1 : decide ((200 : Int) < (n : Int)) = true := by rw [decide_eq_true_eq]; omega
    clear hN hn
    go_enter Tryd.func4, Tryd.ntmps4
    go_wp2_with (go_at_call 5; refine hL.mono ?_; rintro e w2 ⟨rfl, hf⟩)
    go_ret
    exact ⟨rfl, hf⟩
end Go.Proofs.YtajcijocjbakbaaDoor
