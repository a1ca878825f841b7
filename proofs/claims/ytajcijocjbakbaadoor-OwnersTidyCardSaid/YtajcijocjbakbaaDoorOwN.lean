import Derived.Test.YtajcijocjbakbaaDoorOwM
import Derived.Test.YtajcijocjbakbaaDoorOpr
namespace Go.Proofs.YtajcijocjbakbaaDoor
open Go.RowKit

def OpR.cs (x : OpR) : List Value := [.int .u8 x.k, .int .i64 x.a, .int .i64 x.o, .int .i64 x.t, .bool x.fl, .bool x.fa, .int .i64 x.g]
theorem OpR.cs_len (x : OpR) : x.cs.length = 7 := rfl
def bz (l : List Nat) : List Value := l.map fun (c : Nat) => .int .u8 (c : Int)
theorem bz_cells {w : World} {B m : Nat} {A : Option Addr} {l : List Nat} (h : Rd w B 1 A m (bz l)) : m = l.length ∧ (0 < m → ∃ g off, A = some ⟨g, off, none⟩ ∧ g < B ∧ ∀ i (hi : i < l.length), w.cell? ⟨g, off + i, none⟩ = some (.int .u8 (l[i] : Int))) := by
  have hm : m = l.length := by have := h.1; simp [bz] at this; omega
  refine ⟨hm, fun hp => ?_⟩
  obtain ⟨g, off, e, hg, hc⟩ := h.2 (by simp [bz]; omega)
  exact ⟨g, off, e, hg, fun i hi => hc i _ (by simp [bz, hi])⟩
set_option maxRecDepth 100000 in
set_option maxHeartbeats 0 in
theorem once_any (w0 : World) (h0 : T0 w0) (A : Option Addr) (n c : Nat) (xs : List OpR) (hr : Rd w0 w0.heap.size 7 A n (xs.flatMap OpR.cs)) (hk : ∀ x ∈ xs, 0 ≤ x.k ∧ x.k ≤ 255) (Z : Option Addr) (m cz : Nat) (zs : List Nat)
    (hz : Rd w0 w0.heap.size 1 Z m (bz zs)) (hzs : ∀ z ∈ zs, z ≤ 255) : Calls Tryd.prog 3 #[.slice A n c, .slice Z m cz] w0 fun e w' => e = .returned (.bool true) ∧ Frm w0 w' fun _ => False := by
  obtain ⟨hxl, hxc⟩ := Rd.rows OpR.cs_len (by decide) hr
  obtain ⟨hzl, hzc⟩ := bz_cells hz
  have HXL := Lib.hid hxl
  have HXC := Lib.hid hxc
  have HZL := Lib.hid hzl
  have HZC := Lib.hid hzc
  have HK := Lib.hid hk
  have HZS := Lib.hid hzs
  have H0 := Lib.hid h0
  have hL := lives_any w0 h0
  have hN := New.st w0
  clear hxl hxc hzl hzc hk hzs h0 hr hz
  by_cases hn : n ≤ 100
  · by_cases hm : n ≤ m
    · have HM := Lib.hid hm
      have e1 : decide ((100 : Int) < (n : Int)) = false := by rw [decide_eq_false_iff_not]; omega
      have e2 : decide ((m : Int) < (n : Int)) = false := by rw [decide_eq_false_iff_not]; omega
      have e3 : decide (m < n) = false := by rw [decide_eq_false_iff_not]; omega
      have hn' : (n : Int) ≤ 100 := by omega
      obtain ⟨s, hs⟩ : ∃ s, w0.heap.size = s := ⟨_, rfl⟩
      rw [hs] at hN
      have HS0 := Lib.hid hs
      clear hm hs hL
      go_enter Tryd.func3, Tryd.ntmps3
      go_wp2_with (go_at_call 6; refine hN.mono ?_; rintro e w ⟨rfl, hS⟩)
      go_loopw [6] (fun i wr => ∃ (k : Nat) (g : Option Nat) (l : List (Th × Value)), i = .int .i64 k ∧ k ≤ n ∧ St w0 wr s g l ∧ KeysOk l ∧ l.length ≤ k) (fun i _ => n - (intOf i).toNat)
      case atStart => exact ⟨0, none, [], rfl, Nat.zero_le _, hS, keysOk_nil, Nat.le_refl _⟩
      case round =>
        clear hS hN
        obtain ⟨k, g, l, rfl, hkn, hS, hKO, hll⟩ := hrel
        have HS := Lib.hid hS
        have HKO := Lib.hid hKO
        have HLL := Lib.hid hll
        clear hS hKO hll
        by_cases hlk : k < n
        · have k0 : (0 : Int) ≤ (k : Int) := by omega
          have k1 : (k : Int) < (n : Int) := by omega
          have k2 : (k : Int) < (m : Int) := by have := HM.out; omega
          obtain ⟨gx, ox, rfl, -, hxc⟩ := HXC.out (by omega)
          obtain ⟨gz, oz, rfl, -, hzc⟩ := HZC.out (by have := HM.out; omega)
          have hkx : k < xs.length := by have := HXL.out; omega
          have hkz : k < zs.length := by have := HZL.out; have := HM.out; omega
          have hcx := hxc k hkx
          have hcz := hzc k hkz
          obtain ⟨hq0, hq1⟩ := HK.out _ (List.getElem_mem hkx)
          have hz1 := HZS.out _ (List.getElem_mem hkz)
          obtain ⟨⟨xk, xa, xo, xt, xfl, xfa, xg⟩, hx⟩ : ∃ x, xs[k] = x := ⟨_, rfl⟩
          obtain ⟨z, hz⟩ : ∃ z, zs[k] = z := ⟨_, rfl⟩
          rw [hx] at hcx hq0 hq1
          rw [hz] at hcz hz1
          obtain ⟨q, rfl⟩ : ∃ q : Nat, xk = (q : Int) := ⟨xk.toNat, (Int.toNat_of_nonneg hq0).symm⟩
          have HC := Lib.hid hcx
          have q0 : (0 : Int) ≤ (q : Int) := by omega
          have q1 : (q : Int) < 256 := by simp only at hq1; omega
          have z0 : (0 : Int) ≤ (z : Int) := by omega
          have z1 : (z : Int) ≤ 255 := by omega
          have y0 : (z : Int).tmod 4 = ((z % 4 : Nat) : Int) := by rw [Int.tmod_eq_emod_of_nonneg (by omega)]; rfl
          have y1 : (z : Int).tdiv 4 = ((z / 4 : Nat) : Int) := by rw [Int.tdiv_eq_ediv_of_nonneg (by omega)]; rfl
          have y2 : ((z / 4 : Nat) : Int).tmod 3 = ((z / 4 % 3 : Nat) : Int) := by rw [Int.tmod_eq_emod_of_nonneg (by omega)]; rfl
          obtain ⟨t, ht⟩ : ∃ t, z % 4 = t := ⟨_, rfl⟩
          obtain ⟨d, hd⟩ : ∃ t, z / 4 = t := ⟨_, rfl⟩
          obtain ⟨er, her⟩ : ∃ t, d % 3 = t := ⟨_, rfl⟩
          rw [ht] at y0
          rw [hd] at y1 y2
          rw [her] at y2
          have t0 : (0 : Int) ≤ (t : Int) := by omega
          have t1 : (t : Int) ≤ 3 := by omega
          have d0 : (0 : Int) ≤ (d : Int) := by omega
          have d1 : (d : Int) ≤ 63 := by omega
          have r0 : (0 : Int) ≤ (er : Int) := by omega
          have r1 : (er : Int) ≤ 2 := by omega
          have cz0 : wr.cell? ⟨gz, oz + k, none⟩ = some (.int .u8 (z : Int)) := HS.out.frm.cell hcz id
          clear hxc hzc hkz hcx hcz hq0 hq1 hz1 hx hz ht hd her
          obtain ⟨a0, ha0⟩ : ∃ a, accN l 0 8 = a := ⟨_, rfl⟩
          obtain ⟨a1, ha1⟩ : ∃ a, accN l 1 8 = a := ⟨_, rfl⟩
          obtain ⟨a2, ha2⟩ : ∃ a, accN l 2 8 = a := ⟨_, rfl⟩
          obtain ⟨a3, ha3⟩ : ∃ a, accN l 3 8 = a := ⟨_, rfl⟩
          have hT : ∀ (w : World) (g : Option Nat), St w0 w s g l → Calls Tryd.prog 7 #[.pointer (some ⟨s, 0, none⟩)] w fun e w' => e = .returned (.agg #[.int .u64 a0, .int .u64 a1, .int .u64 a2, .int .u64 a3]) ∧ Frm w w' fun _ => False := fun w g h => by
            have := told_any s g l w h.bk
            unfold toldV at this
            rw [ha0, ha1, ha2, ha3] at this
            exact this
          have hNQ : ∀ w : World, (binOp .neq 29 (.agg #[.int .u64 a0, .int .u64 a1, .int .u64 a2, .int .u64 a3]) (.agg #[.int .u64 a0, .int .u64 a1, .int .u64 a2, .int .u64 a3])).run Tryd.prog w = .ok (.bool false) w := fun w => by
            have := neq29 l w
            unfold toldV at this
            rw [ha0, ha1, ha2, ha3] at this
            exact this
          have hGQ : ∀ (a b : Operand) (w : World), (eqGuard .neq 29 a b (.agg #[.int .u64 a0, .int .u64 a1, .int .u64 a2, .int .u64 a3]) (.agg #[.int .u64 a0, .int .u64 a1, .int .u64 a2, .int .u64 a3])).run Tryd.prog w = .ok () w := fun a b w => by
            have := eqg29 a b l w
            unfold toldV at this
            rw [ha0, ha1, ha2, ha3] at this
            exact this
          have HT := Lib.hid hT
          clear hT ha0 ha1 ha2 ha3
          go_upto_region 10 with (go_at_call 7; refine (HT.out _ g HS.out).mono ?_; rintro e w1 ⟨rfl, hf⟩; replace HS := Lib.hid (HS.out.new_ hf); clear hf)
          refine at_world' ?_
          intro W hW
          have hG : Frm w1 W fun _ => False := by
            rw [hW]
            repeat (first | exact Frm.refl _ _ | with_reducible refine Frm.drew ?_ | with_reducible refine Frm.alloc ?_ _ | with_reducible refine Frm.setCell ?_ (fun h => absurd h (Nat.lt_irrefl _)) _)
          have b0 : W.cell? ⟨w1.heap.size, 0, none⟩ = some (.int .u64 a0) := by subst hW; go_simp
          have b1 : W.cell? ⟨w1.heap.size, 1, none⟩ = some (.int .u64 a1) := by subst hW; go_simp
          have b2 : W.cell? ⟨w1.heap.size, 2, none⟩ = some (.int .u64 a2) := by subst hW; go_simp
          have b3 : W.cell? ⟨w1.heap.size, 3, none⟩ = some (.int .u64 a3) := by subst hW; go_simp
          have HSW := Lib.hid (HS.out.new_ hG)
          have hbw : w1.heap.size < W.heap.size := by subst hW; simp
          clear HS hW hG
          obtain ⟨b, hb⟩ : ∃ b, w1.heap.size = b := ⟨_, rfl⟩
          rw [hb] at b0 b1 b2 b3 hbw ⊢
          clear hb
          have HB := Lib.hid (And.intro b0 (And.intro b1 (And.intro b2 (And.intro b3 hbw))))
          clear b0 b1 b2 b3 hbw
          obtain ⟨X, hX⟩ : ∃ X : OpR, X = ⟨q, xa, xo, xt, xfl, xfa, xg⟩ := ⟨_, rfl⟩
          have hXk : X.k = (q : Int) := by rw [hX]
          have HX := Lib.hid (And.intro hX hXk)
          have HCAN := Lib.hid fun (w : World) (h : St w0 w s g l) => can_any Ut At s g l t t0 (by omega) X q hXk (by omega) w (h.tabs H0.out) (h.big H0.out) tabsOk h.bk
          have HADDR := Lib.hid fun (w : World) (g' : Option Nat) (l' : List (Th × Value)) (h : St w0 w s g' l') => addr_any Ut At X q hXk (by omega) w (h.tabs H0.out) (h.big H0.out) tabsOk
          obtain ⟨ad, had⟩ : ∃ a, addrO Ut X = a := ⟨_, rfl⟩
          rw [had] at HADDR
          obtain ⟨ad1, ad2⟩ := ad
          clear had
          have HS := HSW
          by_cases hcan : canO Ut At l t X = 0
          · by_cases her : er = 0
            · have her' : ((er : Nat) : Int) = 0 := by omega
              have e4 : ((er : Int) == 0) = true := by rw [beq_iff_eq]; exact her'
              have HER := Lib.hid her'
              clear her her'
              have hCan : ∀ w, St w0 w s g l → Calls Tryd.prog 8 #[.pointer (some ⟨s, 0, none⟩), .int .i64 t, .agg #[.int .u8 q, .int .i64 xa, .int .i64 xo, .int .i64 xt, .bool xfl, .bool xfa, .int .i64 xg]] w fun e w' => e = .returned (.int .i64 0) ∧ Frm w w' fun _ => False := fun w h => by
                have := HCAN.out w h
                rw [hcan, HX.out.1] at this
                exact this
              have hDid : ∀ w, St w0 w s g l → Calls Tryd.prog 9 #[.pointer (some ⟨s, 0, none⟩), .int .i64 t, .agg #[.int .u8 q, .int .i64 xa, .int .i64 xo, .int .i64 xt, .bool xfl, .bool xfa, .int .i64 xg], .int .i64 er] w fun e w' => e = .returned (.bool true) ∧ ∃ g', St w0 w' s g' (didL Ut At l t X) := fun w h => by
                have := h.did_yes H0.out t t0 (by omega) X q HX.out.2 hcan
                rw [← HER.out] at this
                revert this
                rw [HX.out.1]
                exact id
              have HCan := Lib.hid hCan
              have HDid := Lib.hid hDid
              clear hCan hDid
              have x0 : W.cell? ⟨gx, ox + k * 7, none⟩ = some (.int .u8 (q : Int)) := HS.out.frm.cell (HC.out 0 _ rfl) id
              have x1 : W.cell? ⟨gx, ox + k * 7 + 1, none⟩ = some (.int .i64 xa) := HS.out.frm.cell (HC.out 1 _ rfl) id
              have x2 : W.cell? ⟨gx, ox + k * 7 + 2, none⟩ = some (.int .i64 xo) := HS.out.frm.cell (HC.out 2 _ rfl) id
              have x3 : W.cell? ⟨gx, ox + k * 7 + 3, none⟩ = some (.int .i64 xt) := HS.out.frm.cell (HC.out 3 _ rfl) id
              have x4 : W.cell? ⟨gx, ox + k * 7 + 4, none⟩ = some (.bool xfl) := HS.out.frm.cell (HC.out 4 _ rfl) id
              have x5 : W.cell? ⟨gx, ox + k * 7 + 5, none⟩ = some (.bool xfa) := HS.out.frm.cell (HC.out 5 _ rfl) id
              have x6 : W.cell? ⟨gx, ox + k * 7 + 6, none⟩ = some (.int .i64 xg) := HS.out.frm.cell (HC.out 6 _ rfl) id
              go_upto_region 11 with (go_at_call 8; with_reducible refine (HCan.out _ HS.out).mono ?_; rintro e w2 ⟨rfl, hf2⟩)
              replace HS := Lib.hid (HS.out.new_ hf2)
              clear x0 x1 x2 x3 x4 x5 x6
              have x0 : w2.cell? ⟨gx, ox + k * 7, none⟩ = some (.int .u8 (q : Int)) := HS.out.frm.cell (HC.out 0 _ rfl) id
              have x1 : w2.cell? ⟨gx, ox + k * 7 + 1, none⟩ = some (.int .i64 xa) := HS.out.frm.cell (HC.out 1 _ rfl) id
              have x2 : w2.cell? ⟨gx, ox + k * 7 + 2, none⟩ = some (.int .i64 xo) := HS.out.frm.cell (HC.out 2 _ rfl) id
              have x3 : w2.cell? ⟨gx, ox + k * 7 + 3, none⟩ = some (.int .i64 xt) := HS.out.frm.cell (HC.out 3 _ rfl) id
              have x4 : w2.cell? ⟨gx, ox + k * 7 + 4, none⟩ = some (.bool xfl) := HS.out.frm.cell (HC.out 4 _ rfl) id
              have x5 : w2.cell? ⟨gx, ox + k * 7 + 5, none⟩ = some (.bool xfa) := HS.out.frm.cell (HC.out 5 _ rfl) id
              have x6 : w2.cell? ⟨gx, ox + k * 7 + 6, none⟩ = some (.int .i64 xg) := HS.out.frm.cell (HC.out 6 _ rfl) id
              go_upto_region 12 with (go_at_call 9; with_reducible refine (HDid.out _ HS.out).mono ?_; rintro e w3 ⟨rfl, g', hS3⟩)
              have HKO2 := Lib.hid (show KeysOk (didL Ut At l t X) from ⟨hS3.bk.nodup, didL_keys Ut At l t X t0 t1 HKO.out.2⟩)
              have HLL2 := Lib.hid (show (didL Ut At l t X).length ≤ k + 1 from Nat.le_trans (didL_len _ _ _ _ _) (Nat.succ_le_succ HLL.out))
              replace HS := Lib.hid hS3
              clear hS3 hf2 HB
              clear x0 x1 x2 x3 x4 x5 x6
              refine wp_region_grown w3 (Frm.refl _ _) (by kernel_rfl) (by kernel_rfl) ?_
              repeat (go_big_quiet_step (fail))
              refine wpQuiet_nil ?_
              intro wq hq
              replace HS := Lib.hid (HS.out.new_ hq)
              clear hq
              have x0 : wq.cell? ⟨gx, ox + k * 7, none⟩ = some (.int .u8 (q : Int)) := HS.out.frm.cell (HC.out 0 _ rfl) id
              have x1 : wq.cell? ⟨gx, ox + k * 7 + 1, none⟩ = some (.int .i64 xa) := HS.out.frm.cell (HC.out 1 _ rfl) id
              have x2 : wq.cell? ⟨gx, ox + k * 7 + 2, none⟩ = some (.int .i64 xo) := HS.out.frm.cell (HC.out 2 _ rfl) id
              have x3 : wq.cell? ⟨gx, ox + k * 7 + 3, none⟩ = some (.int .i64 xt) := HS.out.frm.cell (HC.out 3 _ rfl) id
              have x4 : wq.cell? ⟨gx, ox + k * 7 + 4, none⟩ = some (.bool xfl) := HS.out.frm.cell (HC.out 4 _ rfl) id
              have x5 : wq.cell? ⟨gx, ox + k * 7 + 5, none⟩ = some (.bool xfa) := HS.out.frm.cell (HC.out 5 _ rfl) id
              have x6 : wq.cell? ⟨gx, ox + k * 7 + 6, none⟩ = some (.int .i64 xg) := HS.out.frm.cell (HC.out 6 _ rfl) id
              have hA := HADDR.out wq _ _ HS.out
              rw [HX.out.1] at hA
              go_upto_region 15 with (go_at_call 10; refine hA.mono ?_; rintro e w4 ⟨rfl, hf⟩; replace HS := Lib.hid (HS.out.new_ hf); clear hf)
              have hH := holders_any s _ _ ad1 (by have := HLL2.out; omega) w4 HS.out.bk
              go_upto_region 16 with (go_at_call 11; refine hH.mono ?_; rintro e w5 ⟨H, hs, rfl, hperm, hsort, hrd, hf⟩)
              replace HS := Lib.hid (HS.out.new_ hf)
              obtain ⟨hb3, hlt⟩ := holders_ok HKO2.out hperm hsort
              have HB3 := Lib.hid hb3
              have HLT := Lib.hid hlt
              have HRD := Lib.hid hrd.2
              obtain ⟨zl, hzl⟩ : ∃ z, hs.length = z := ⟨_, rfl⟩
              have HZ := Lib.hid hzl
              have hz1000 : (zl : Int) ≤ 1000 := by
                have h1 := hperm.length_eq
                have h2 := ts_len _ ad1 |> (h1 ▸ ·)
                have := HLL2.out
                omega
              rw [hzl]
              clear hf hperm hsort hrd hb3 hlt hA hH hzl x0 x1 x2 x3 x4 x5 x6
              go_wp2_with fail
              go_loopw [15] (fun j wr => ∃ p : Nat, j = .int .i64 p ∧ p ≤ zl ∧ Frm w5 wr fun _ => False) (fun j _ => zl - (intOf j).toNat)
              case atStart => exact ⟨0, rfl, Nat.zero_le _, Frm.refl _ _⟩
              case round =>
                obtain ⟨p, rfl, hp, hF⟩ := hrel
                have F := Lib.hid hF
                clear hF
                by_cases hpz : p < zl
                · have p0 : (0 : Int) ≤ (p : Int) := by omega
                  have p1 : (p : Int) < (zl : Int) := by omega
                  have hph : p < hs.length := by rw [HZ.out]; exact hpz
                  obtain ⟨gh, oh, rfl, hgb, hcell⟩ := HRD.out (by rw [iV_len]; omega)
                  have hcp := F.out.cell (hcell p (.int .i64 hs[p]) (by unfold iV; rw [List.getElem?_map, List.getElem?_eq_getElem hph]; rfl)) id
                  obtain ⟨v0, v3⟩ := HB3.out p hph
                  by_cases hp0 : p = 0
                  · have hc0 := hcp
                    obtain ⟨v, hv⟩ : ∃ v, hs[p] = v := ⟨_, rfl⟩
                    rw [hv] at hc0 v0 v3
                    have g1 : decide (v < 0) = false := by rw [decide_eq_false_iff_not]; omega
                    have g2 : decide ((3 : Int) < v) = false := by rw [decide_eq_false_iff_not]; omega
                    have g3 : decide ((0 : Int) < (p : Int)) = false := by rw [decide_eq_false_iff_not]; omega
                    have g4 : decide (0 < p) = false := by rw [decide_eq_false_iff_not]; omega
                    replace hc0 := Grown.cell hc0
                    clear hcell hcp hv hph hgb v0 v3 hp0
                    go_wp2_with fail
                    refine wp_region_grown wr (Frm.refl _ _) (by kernel_rfl) (by kernel_rfl) ?_
                    repeat (go_big_quiet_step (fail))
                    refine wpQuiet_nil ?_
                    intro wq2 hq2
                    go_wp2_with fail
                    go_roundw
                    case rel => exact ⟨p + 1, by go_num, by omega, F.out.then_ hq2⟩
                    case measure => simp [intOf]; omega
                  · obtain ⟨r, hr⟩ : ∃ r, p = r + 1 := ⟨p - 1, by omega⟩
                    have hrh : r < hs.length := by omega
                    have hlt := HLT.out r (by omega)
                    have hcr := F.out.cell (hcell r (.int .i64 hs[r]) (by unfold iV; rw [List.getElem?_map, List.getElem?_eq_getElem hrh]; rfl)) id
                    have hle : hs[r] < hs[p] := by subst hr; exact hlt
                    obtain ⟨v, hv⟩ : ∃ v, hs[p] = v := ⟨_, rfl⟩
                    obtain ⟨u, hu⟩ : ∃ v, hs[r] = v := ⟨_, rfl⟩
                    have hc0 := hcp
                    have hc1 := hcr
                    rw [hv] at hc0 v0 v3 hle
                    rw [hu] at hc1 hle
                    have g1 : decide (v < 0) = false := by rw [decide_eq_false_iff_not]; omega
                    have g2 : decide ((3 : Int) < v) = false := by rw [decide_eq_false_iff_not]; omega
                    have g3 : decide ((0 : Int) < (p : Int)) = true := by rw [decide_eq_true_eq]; omega
                    have g4 : decide (0 < p) = true := by rw [decide_eq_true_eq]; omega
                    have g5 : (p : Int) - 1 = (r : Int) := by omega
                    have g6 : decide (v ≤ u) = false := by rw [decide_eq_false_iff_not]; omega
                    have r0' : (0 : Int) ≤ (r : Int) := by omega
                    have r1' : (r : Int) < (zl : Int) := by omega
                    have g7 : (0 : Int) < (p : Int) := by omega
                    replace hc0 := Grown.cell hc0
                    replace hc1 := Grown.cell hc1
                    clear hcell hcp hcr hv hu hph hrh hgb v0 v3 hp0 hlt hle hr
                    go_wp2_with fail
                    refine wp_region_grown wr (Frm.refl _ _) (by kernel_rfl) (by kernel_rfl) ?_
                    repeat (go_big_quiet_step (fail))
                    refine wpQuiet_nil ?_
                    intro wq2 hq2
                    go_wp2_with fail
                    go_roundw
                    case rel => exact ⟨p + 1, by go_num, by omega, F.out.then_ hq2⟩
                    case measure => simp [intOf]; omega
                · obtain rfl : p = zl := by omega
                  go_wp2_with fail
                  go_roundw
                  case rel => exact ⟨k + 1, _, _, by go_num, by omega, HS.out.new_ F.out, HKO2.out, HLL2.out⟩
                  case measure => simp [intOf]; omega
            · have e4 : ((er : Int) == 0) = false := by rw [beq_eq_false_iff_ne]; omega
              have hCan : ∀ w, St w0 w s g l → Calls Tryd.prog 8 #[.pointer (some ⟨s, 0, none⟩), .int .i64 t, .agg #[.int .u8 q, .int .i64 xa, .int .i64 xo, .int .i64 xt, .bool xfl, .bool xfa, .int .i64 xg]] w fun e w' => e = .returned (.int .i64 0) ∧ Frm w w' fun _ => False := fun w h => by
                have := HCAN.out w h
                rw [hcan, HX.out.1] at this
                exact this
              have hDid : ∀ w, St w0 w s g l → Calls Tryd.prog 9 #[.pointer (some ⟨s, 0, none⟩), .int .i64 t, .agg #[.int .u8 q, .int .i64 xa, .int .i64 xo, .int .i64 xt, .bool xfl, .bool xfa, .int .i64 xg], .int .i64 er] w fun e w' => e = .returned (.bool false) ∧ Frm w w' fun _ => False := fun w h => by
                have := did_no Ut At s g l t t0 (by omega) X q HX.out.2 (by omega) er (.inl (by omega)) w (h.tabs H0.out) (h.big H0.out) tabsOk h.bk
                rw [HX.out.1] at this
                exact this
              have HCan := Lib.hid hCan
              have HDid := Lib.hid hDid
              clear hCan hDid
              have x0 : W.cell? ⟨gx, ox + k * 7, none⟩ = some (.int .u8 (q : Int)) := HS.out.frm.cell (HC.out 0 _ rfl) id
              have x1 : W.cell? ⟨gx, ox + k * 7 + 1, none⟩ = some (.int .i64 xa) := HS.out.frm.cell (HC.out 1 _ rfl) id
              have x2 : W.cell? ⟨gx, ox + k * 7 + 2, none⟩ = some (.int .i64 xo) := HS.out.frm.cell (HC.out 2 _ rfl) id
              have x3 : W.cell? ⟨gx, ox + k * 7 + 3, none⟩ = some (.int .i64 xt) := HS.out.frm.cell (HC.out 3 _ rfl) id
              have x4 : W.cell? ⟨gx, ox + k * 7 + 4, none⟩ = some (.bool xfl) := HS.out.frm.cell (HC.out 4 _ rfl) id
              have x5 : W.cell? ⟨gx, ox + k * 7 + 5, none⟩ = some (.bool xfa) := HS.out.frm.cell (HC.out 5 _ rfl) id
              have x6 : W.cell? ⟨gx, ox + k * 7 + 6, none⟩ = some (.int .i64 xg) := HS.out.frm.cell (HC.out 6 _ rfl) id
              go_upto_region 11 with (go_at_call 8; with_reducible refine (HCan.out _ HS.out).mono ?_; rintro e w2 ⟨rfl, hf2⟩)
              replace HS := Lib.hid (HS.out.new_ hf2)
              clear x0 x1 x2 x3 x4 x5 x6
              have x0 : w2.cell? ⟨gx, ox + k * 7, none⟩ = some (.int .u8 (q : Int)) := HS.out.frm.cell (HC.out 0 _ rfl) id
              have x1 : w2.cell? ⟨gx, ox + k * 7 + 1, none⟩ = some (.int .i64 xa) := HS.out.frm.cell (HC.out 1 _ rfl) id
              have x2 : w2.cell? ⟨gx, ox + k * 7 + 2, none⟩ = some (.int .i64 xo) := HS.out.frm.cell (HC.out 2 _ rfl) id
              have x3 : w2.cell? ⟨gx, ox + k * 7 + 3, none⟩ = some (.int .i64 xt) := HS.out.frm.cell (HC.out 3 _ rfl) id
              have x4 : w2.cell? ⟨gx, ox + k * 7 + 4, none⟩ = some (.bool xfl) := HS.out.frm.cell (HC.out 4 _ rfl) id
              have x5 : w2.cell? ⟨gx, ox + k * 7 + 5, none⟩ = some (.bool xfa) := HS.out.frm.cell (HC.out 5 _ rfl) id
              have x6 : w2.cell? ⟨gx, ox + k * 7 + 6, none⟩ = some (.int .i64 xg) := HS.out.frm.cell (HC.out 6 _ rfl) id
              go_upto_region 12 with (go_at_call 9; with_reducible refine (HDid.out _ HS.out).mono ?_; rintro e w3 ⟨rfl, hf3⟩)
              have HKO2 := HKO
              have HLL2 := Lib.hid (show l.length ≤ k + 1 from Nat.le_succ_of_le HLL.out)
              have hz2 := hf2.then_ hf3
              have b0 := Grown.cell (hz2.cell HB.out.1 id)
              have b1 := Grown.cell (hz2.cell HB.out.2.1 id)
              have b2 := Grown.cell (hz2.cell HB.out.2.2.1 id)
              have b3 := Grown.cell (hz2.cell HB.out.2.2.2.1 id)
              replace HS := Lib.hid (HS.out.new_ hf3)
              clear hf2 hf3 HB hz2
              have HTG := Lib.hid fun F : Grown w3 => HT.out F.1 _ (HS.out.new_ F.2)
              clear x0 x1 x2 x3 x4 x5 x6
              refine wp_region_grown w3 (Frm.refl _ _) (by kernel_rfl) (by kernel_rfl) ?_
              repeat (go_big_quiet_step ((go_at_call 7; with_reducible refine Calls.grown_of (HTG.out _))))
              refine wpQuiet_nil ?_
              intro wq hq
              replace HS := Lib.hid (HS.out.new_ hq)
              clear hq b0 b1 b2 b3 HTG
              have x0 : wq.cell? ⟨gx, ox + k * 7, none⟩ = some (.int .u8 (q : Int)) := HS.out.frm.cell (HC.out 0 _ rfl) id
              have x1 : wq.cell? ⟨gx, ox + k * 7 + 1, none⟩ = some (.int .i64 xa) := HS.out.frm.cell (HC.out 1 _ rfl) id
              have x2 : wq.cell? ⟨gx, ox + k * 7 + 2, none⟩ = some (.int .i64 xo) := HS.out.frm.cell (HC.out 2 _ rfl) id
              have x3 : wq.cell? ⟨gx, ox + k * 7 + 3, none⟩ = some (.int .i64 xt) := HS.out.frm.cell (HC.out 3 _ rfl) id
              have x4 : wq.cell? ⟨gx, ox + k * 7 + 4, none⟩ = some (.bool xfl) := HS.out.frm.cell (HC.out 4 _ rfl) id
              have x5 : wq.cell? ⟨gx, ox + k * 7 + 5, none⟩ = some (.bool xfa) := HS.out.frm.cell (HC.out 5 _ rfl) id
              have x6 : wq.cell? ⟨gx, ox + k * 7 + 6, none⟩ = some (.int .i64 xg) := HS.out.frm.cell (HC.out 6 _ rfl) id
              have hA := HADDR.out wq _ _ HS.out
              rw [HX.out.1] at hA
              go_upto_region 15 with (go_at_call 10; refine hA.mono ?_; rintro e w4 ⟨rfl, hf⟩; replace HS := Lib.hid (HS.out.new_ hf); clear hf)
              have hH := holders_any s _ _ ad1 (by have := HLL2.out; omega) w4 HS.out.bk
              go_upto_region 16 with (go_at_call 11; refine hH.mono ?_; rintro e w5 ⟨H, hs, rfl, hperm, hsort, hrd, hf⟩)
              replace HS := Lib.hid (HS.out.new_ hf)
              obtain ⟨hb3, hlt⟩ := holders_ok HKO2.out hperm hsort
              have HB3 := Lib.hid hb3
              have HLT := Lib.hid hlt
              have HRD := Lib.hid hrd.2
              obtain ⟨zl, hzl⟩ : ∃ z, hs.length = z := ⟨_, rfl⟩
              have HZ := Lib.hid hzl
              have hz1000 : (zl : Int) ≤ 1000 := by
                have h1 := hperm.length_eq
                have h2 := ts_len _ ad1 |> (h1 ▸ ·)
                have := HLL2.out
                omega
              rw [hzl]
              clear hf hperm hsort hrd hb3 hlt hA hH hzl x0 x1 x2 x3 x4 x5 x6
              go_wp2_with fail
              go_loopw [15] (fun j wr => ∃ p : Nat, j = .int .i64 p ∧ p ≤ zl ∧ Frm w5 wr fun _ => False) (fun j _ => zl - (intOf j).toNat)
              case atStart => exact ⟨0, rfl, Nat.zero_le _, Frm.refl _ _⟩
              case round =>
                obtain ⟨p, rfl, hp, hF⟩ := hrel
                have F := Lib.hid hF
                clear hF
                by_cases hpz : p < zl
                · have p0 : (0 : Int) ≤ (p : Int) := by omega
                  have p1 : (p : Int) < (zl : Int) := by omega
                  have hph : p < hs.length := by rw [HZ.out]; exact hpz
                  obtain ⟨gh, oh, rfl, hgb, hcell⟩ := HRD.out (by rw [iV_len]; omega)
                  have hcp := F.out.cell (hcell p (.int .i64 hs[p]) (by unfold iV; rw [List.getElem?_map, List.getElem?_eq_getElem hph]; rfl)) id
                  obtain ⟨v0, v3⟩ := HB3.out p hph
                  by_cases hp0 : p = 0
                  · have hc0 := hcp
                    obtain ⟨v, hv⟩ : ∃ v, hs[p] = v := ⟨_, rfl⟩
                    rw [hv] at hc0 v0 v3
                    have g1 : decide (v < 0) = false := by rw [decide_eq_false_iff_not]; omega
                    have g2 : decide ((3 : Int) < v) = false := by rw [decide_eq_false_iff_not]; omega
                    have g3 : decide ((0 : Int) < (p : Int)) = false := by rw [decide_eq_false_iff_not]; omega
                    have g4 : decide (0 < p) = false := by rw [decide_eq_false_iff_not]; omega
                    replace hc0 := Grown.cell hc0
                    clear hcell hcp hv hph hgb v0 v3 hp0
                    go_wp2_with fail
                    refine wp_region_grown wr (Frm.refl _ _) (by kernel_rfl) (by kernel_rfl) ?_
                    repeat (go_big_quiet_step (fail))
                    refine wpQuiet_nil ?_
                    intro wq2 hq2
                    go_wp2_with fail
                    go_roundw
                    case rel => exact ⟨p + 1, by go_num, by omega, F.out.then_ hq2⟩
                    case measure => simp [intOf]; omega
                  · obtain ⟨r, hr⟩ : ∃ r, p = r + 1 := ⟨p - 1, by omega⟩
                    have hrh : r < hs.length := by omega
                    have hlt := HLT.out r (by omega)
                    have hcr := F.out.cell (hcell r (.int .i64 hs[r]) (by unfold iV; rw [List.getElem?_map, List.getElem?_eq_getElem hrh]; rfl)) id
                    have hle : hs[r] < hs[p] := by subst hr; exact hlt
                    obtain ⟨v, hv⟩ : ∃ v, hs[p] = v := ⟨_, rfl⟩
                    obtain ⟨u, hu⟩ : ∃ v, hs[r] = v := ⟨_, rfl⟩
                    have hc0 := hcp
                    have hc1 := hcr
                    rw [hv] at hc0 v0 v3 hle
                    rw [hu] at hc1 hle
                    have g1 : decide (v < 0) = false := by rw [decide_eq_false_iff_not]; omega
                    have g2 : decide ((3 : Int) < v) = false := by rw [decide_eq_false_iff_not]; omega
                    have g3 : decide ((0 : Int) < (p : Int)) = true := by rw [decide_eq_true_eq]; omega
                    have g4 : decide (0 < p) = true := by rw [decide_eq_true_eq]; omega
                    have g5 : (p : Int) - 1 = (r : Int) := by omega
                    have g6 : decide (v ≤ u) = false := by rw [decide_eq_false_iff_not]; omega
                    have r0' : (0 : Int) ≤ (r : Int) := by omega
                    have r1' : (r : Int) < (zl : Int) := by omega
                    have g7 : (0 : Int) < (p : Int) := by omega
                    replace hc0 := Grown.cell hc0
                    replace hc1 := Grown.cell hc1
                    clear hcell hcp hcr hv hu hph hrh hgb v0 v3 hp0 hlt hle hr
                    go_wp2_with fail
                    refine wp_region_grown wr (Frm.refl _ _) (by kernel_rfl) (by kernel_rfl) ?_
                    repeat (go_big_quiet_step (fail))
                    refine wpQuiet_nil ?_
                    intro wq2 hq2
                    go_wp2_with fail
                    go_roundw
                    case rel => exact ⟨p + 1, by go_num, by omega, F.out.then_ hq2⟩
                    case measure => simp [intOf]; omega
                · obtain rfl : p = zl := by omega
                  go_wp2_with fail
                  go_roundw
                  case rel => exact ⟨k + 1, _, _, by go_num, by omega, HS.out.new_ F.out, HKO2.out, HLL2.out⟩
                  case measure => simp [intOf]; omega
          · obtain ⟨cv, hcv⟩ : ∃ v, canO Ut At l t X = v := ⟨_, rfl⟩
            have hcv0 : cv ≠ 0 := by rw [← hcv]; exact hcan
            have e5 : (cv == 0) = false := by rw [beq_eq_false_iff_ne]; exact hcv0
            have hcan' := hcan
            have hCan : ∀ w, St w0 w s g l → Calls Tryd.prog 8 #[.pointer (some ⟨s, 0, none⟩), .int .i64 t, .agg #[.int .u8 q, .int .i64 xa, .int .i64 xo, .int .i64 xt, .bool xfl, .bool xfa, .int .i64 xg]] w fun e w' => e = .returned (.int .i64 cv) ∧ Frm w w' fun _ => False := fun w h => by
              have := HCAN.out w h
              rw [hcv, HX.out.1] at this
              exact this
            have hDid : ∀ w, St w0 w s g l → Calls Tryd.prog 9 #[.pointer (some ⟨s, 0, none⟩), .int .i64 t, .agg #[.int .u8 q, .int .i64 xa, .int .i64 xo, .int .i64 xt, .bool xfl, .bool xfa, .int .i64 xg], .int .i64 er] w fun e w' => e = .returned (.bool false) ∧ Frm w w' fun _ => False := fun w h => by
              have := did_no Ut At s g l t t0 (by omega) X q HX.out.2 (by omega) er (.inr hcan) w (h.tabs H0.out) (h.big H0.out) tabsOk h.bk
              rw [HX.out.1] at this
              exact this
            have HCan := Lib.hid hCan
            have HDid := Lib.hid hDid
            clear hCan hDid
            have x0 : W.cell? ⟨gx, ox + k * 7, none⟩ = some (.int .u8 (q : Int)) := HS.out.frm.cell (HC.out 0 _ rfl) id
            have x1 : W.cell? ⟨gx, ox + k * 7 + 1, none⟩ = some (.int .i64 xa) := HS.out.frm.cell (HC.out 1 _ rfl) id
            have x2 : W.cell? ⟨gx, ox + k * 7 + 2, none⟩ = some (.int .i64 xo) := HS.out.frm.cell (HC.out 2 _ rfl) id
            have x3 : W.cell? ⟨gx, ox + k * 7 + 3, none⟩ = some (.int .i64 xt) := HS.out.frm.cell (HC.out 3 _ rfl) id
            have x4 : W.cell? ⟨gx, ox + k * 7 + 4, none⟩ = some (.bool xfl) := HS.out.frm.cell (HC.out 4 _ rfl) id
            have x5 : W.cell? ⟨gx, ox + k * 7 + 5, none⟩ = some (.bool xfa) := HS.out.frm.cell (HC.out 5 _ rfl) id
            have x6 : W.cell? ⟨gx, ox + k * 7 + 6, none⟩ = some (.int .i64 xg) := HS.out.frm.cell (HC.out 6 _ rfl) id
            go_upto_region 11 with (go_at_call 8; with_reducible refine (HCan.out _ HS.out).mono ?_; rintro e w2 ⟨rfl, hf2⟩)
            replace HS := Lib.hid (HS.out.new_ hf2)
            clear x0 x1 x2 x3 x4 x5 x6
            have x0 : w2.cell? ⟨gx, ox + k * 7, none⟩ = some (.int .u8 (q : Int)) := HS.out.frm.cell (HC.out 0 _ rfl) id
            have x1 : w2.cell? ⟨gx, ox + k * 7 + 1, none⟩ = some (.int .i64 xa) := HS.out.frm.cell (HC.out 1 _ rfl) id
            have x2 : w2.cell? ⟨gx, ox + k * 7 + 2, none⟩ = some (.int .i64 xo) := HS.out.frm.cell (HC.out 2 _ rfl) id
            have x3 : w2.cell? ⟨gx, ox + k * 7 + 3, none⟩ = some (.int .i64 xt) := HS.out.frm.cell (HC.out 3 _ rfl) id
            have x4 : w2.cell? ⟨gx, ox + k * 7 + 4, none⟩ = some (.bool xfl) := HS.out.frm.cell (HC.out 4 _ rfl) id
            have x5 : w2.cell? ⟨gx, ox + k * 7 + 5, none⟩ = some (.bool xfa) := HS.out.frm.cell (HC.out 5 _ rfl) id
            have x6 : w2.cell? ⟨gx, ox + k * 7 + 6, none⟩ = some (.int .i64 xg) := HS.out.frm.cell (HC.out 6 _ rfl) id
            go_upto_region 12 with (go_at_call 9; with_reducible refine (HDid.out _ HS.out).mono ?_; rintro e w3 ⟨rfl, hf3⟩)
            have HKO2 := HKO
            have HLL2 := Lib.hid (show l.length ≤ k + 1 from Nat.le_succ_of_le HLL.out)
            have hz2 := hf2.then_ hf3
            have b0 := Grown.cell (hz2.cell HB.out.1 id)
            have b1 := Grown.cell (hz2.cell HB.out.2.1 id)
            have b2 := Grown.cell (hz2.cell HB.out.2.2.1 id)
            have b3 := Grown.cell (hz2.cell HB.out.2.2.2.1 id)
            replace HS := Lib.hid (HS.out.new_ hf3)
            clear hf2 hf3 HB hz2
            have HTG := Lib.hid fun F : Grown w3 => HT.out F.1 _ (HS.out.new_ F.2)
            clear x0 x1 x2 x3 x4 x5 x6
            refine wp_region_grown w3 (Frm.refl _ _) (by kernel_rfl) (by kernel_rfl) ?_
            repeat (go_big_quiet_step ((go_at_call 7; with_reducible refine Calls.grown_of (HTG.out _))))
            refine wpQuiet_nil ?_
            intro wq hq
            replace HS := Lib.hid (HS.out.new_ hq)
            clear hq b0 b1 b2 b3 HTG
            have x0 : wq.cell? ⟨gx, ox + k * 7, none⟩ = some (.int .u8 (q : Int)) := HS.out.frm.cell (HC.out 0 _ rfl) id
            have x1 : wq.cell? ⟨gx, ox + k * 7 + 1, none⟩ = some (.int .i64 xa) := HS.out.frm.cell (HC.out 1 _ rfl) id
            have x2 : wq.cell? ⟨gx, ox + k * 7 + 2, none⟩ = some (.int .i64 xo) := HS.out.frm.cell (HC.out 2 _ rfl) id
            have x3 : wq.cell? ⟨gx, ox + k * 7 + 3, none⟩ = some (.int .i64 xt) := HS.out.frm.cell (HC.out 3 _ rfl) id
            have x4 : wq.cell? ⟨gx, ox + k * 7 + 4, none⟩ = some (.bool xfl) := HS.out.frm.cell (HC.out 4 _ rfl) id
            have x5 : wq.cell? ⟨gx, ox + k * 7 + 5, none⟩ = some (.bool xfa) := HS.out.frm.cell (HC.out 5 _ rfl) id
            have x6 : wq.cell? ⟨gx, ox + k * 7 + 6, none⟩ = some (.int .i64 xg) := HS.out.frm.cell (HC.out 6 _ rfl) id
            have hA := HADDR.out wq _ _ HS.out
            rw [HX.out.1] at hA
            go_upto_region 15 with (go_at_call 10; refine hA.mono ?_; rintro e w4 ⟨rfl, hf⟩; replace HS := Lib.hid (HS.out.new_ hf); clear hf)
            have hH := holders_any s _ _ ad1 (by have := HLL2.out; omega) w4 HS.out.bk
            go_upto_region 16 with (go_at_call 11; refine hH.mono ?_; rintro e w5 ⟨H, hs, rfl, hperm, hsort, hrd, hf⟩)
            replace HS := Lib.hid (HS.out.new_ hf)
            obtain ⟨hb3, hlt⟩ := holders_ok HKO2.out hperm hsort
            have HB3 := Lib.hid hb3
            have HLT := Lib.hid hlt
            have HRD := Lib.hid hrd.2
            obtain ⟨zl, hzl⟩ : ∃ z, hs.length = z := ⟨_, rfl⟩
            have HZ := Lib.hid hzl
            have hz1000 : (zl : Int) ≤ 1000 := by
              have h1 := hperm.length_eq
              have h2 := ts_len _ ad1 |> (h1 ▸ ·)
              have := HLL2.out
              omega
            rw [hzl]
            clear hf hperm hsort hrd hb3 hlt hA hH hzl x0 x1 x2 x3 x4 x5 x6
            go_wp2_with fail
            go_loopw [15] (fun j wr => ∃ p : Nat, j = .int .i64 p ∧ p ≤ zl ∧ Frm w5 wr fun _ => False) (fun j _ => zl - (intOf j).toNat)
            case atStart => exact ⟨0, rfl, Nat.zero_le _, Frm.refl _ _⟩
            case round =>
              obtain ⟨p, rfl, hp, hF⟩ := hrel
              have F := Lib.hid hF
              clear hF
              by_cases hpz : p < zl
              · have p0 : (0 : Int) ≤ (p : Int) := by omega
                have p1 : (p : Int) < (zl : Int) := by omega
                have hph : p < hs.length := by rw [HZ.out]; exact hpz
                obtain ⟨gh, oh, rfl, hgb, hcell⟩ := HRD.out (by rw [iV_len]; omega)
                have hcp := F.out.cell (hcell p (.int .i64 hs[p]) (by unfold iV; rw [List.getElem?_map, List.getElem?_eq_getElem hph]; rfl)) id
                obtain ⟨v0, v3⟩ := HB3.out p hph
                by_cases hp0 : p = 0
                · have hc0 := hcp
                  obtain ⟨v, hv⟩ : ∃ v, hs[p] = v := ⟨_, rfl⟩
                  rw [hv] at hc0 v0 v3
                  have g1 : decide (v < 0) = false := by rw [decide_eq_false_iff_not]; omega
                  have g2 : decide ((3 : Int) < v) = false := by rw [decide_eq_false_iff_not]; omega
                  have g3 : decide ((0 : Int) < (p : Int)) = false := by rw [decide_eq_false_iff_not]; omega
                  have g4 : decide (0 < p) = false := by rw [decide_eq_false_iff_not]; omega
                  replace hc0 := Grown.cell hc0
                  clear hcell hcp hv hph hgb v0 v3 hp0
                  go_wp2_with fail
                  refine wp_region_grown wr (Frm.refl _ _) (by kernel_rfl) (by kernel_rfl) ?_
                  repeat (go_big_quiet_step (fail))
                  refine wpQuiet_nil ?_
                  intro wq2 hq2
                  go_wp2_with fail
                  go_roundw
                  case rel => exact ⟨p + 1, by go_num, by omega, F.out.then_ hq2⟩
                  case measure => simp [intOf]; omega
                · obtain ⟨r, hr⟩ : ∃ r, p = r + 1 := ⟨p - 1, by omega⟩
                  have hrh : r < hs.length := by omega
                  have hlt := HLT.out r (by omega)
                  have hcr := F.out.cell (hcell r (.int .i64 hs[r]) (by unfold iV; rw [List.getElem?_map, List.getElem?_eq_getElem hrh]; rfl)) id
                  have hle : hs[r] < hs[p] := by subst hr; exact hlt
                  obtain ⟨v, hv⟩ : ∃ v, hs[p] = v := ⟨_, rfl⟩
                  obtain ⟨u, hu⟩ : ∃ v, hs[r] = v := ⟨_, rfl⟩
                  have hc0 := hcp
                  have hc1 := hcr
                  rw [hv] at hc0 v0 v3 hle
                  rw [hu] at hc1 hle
                  have g1 : decide (v < 0) = false := by rw [decide_eq_false_iff_not]; omega
                  have g2 : decide ((3 : Int) < v) = false := by rw [decide_eq_false_iff_not]; omega
                  have g3 : decide ((0 : Int) < (p : Int)) = true := by rw [decide_eq_true_eq]; omega
                  have g4 : decide (0 < p) = true := by rw [decide_eq_true_eq]; omega
                  have g5 : (p : Int) - 1 = (r : Int) := by omega
                  have g6 : decide (v ≤ u) = false := by rw [decide_eq_false_iff_not]; omega
                  have r0' : (0 : Int) ≤ (r : Int) := by omega
                  have r1' : (r : Int) < (zl : Int) := by omega
                  have g7 : (0 : Int) < (p : Int) := by omega
                  replace hc0 := Grown.cell hc0
                  replace hc1 := Grown.cell hc1
                  clear hcell hcp hcr hv hu hph hrh hgb v0 v3 hp0 hlt hle hr
                  go_wp2_with fail
                  refine wp_region_grown wr (Frm.refl _ _) (by kernel_rfl) (by kernel_rfl) ?_
                  repeat (go_big_quiet_step (fail))
                  refine wpQuiet_nil ?_
                  intro wq2 hq2
                  go_wp2_with fail
                  go_roundw
                  case rel => exact ⟨p + 1, by go_num, by omega, F.out.then_ hq2⟩
                  case measure => simp [intOf]; omega
              · obtain rfl : p = zl := by omega
                go_wp2_with fail
                go_roundw
                case rel => exact ⟨k + 1, _, _, by go_num, by omega, HS.out.new_ F.out, HKO2.out, HLL2.out⟩
                case measure => simp [intOf]; omega
        · obtain rfl : k = n := by omega
          have HL := Lib.hid (lives_any wr ⟨HS.out.tabs H0.out, HS.out.big H0.out⟩)
          go_wp2_with (go_at_call 5; refine HL.out.mono ?_; rintro e w2 ⟨rfl, hf⟩)
          go_ret
          exact ⟨rfl, HS.out.frm.then_ hf⟩
    · have e1 : decide ((100 : Int) < (n : Int)) = false := by rw [decide_eq_false_iff_not]; omega
      have e2 : decide ((m : Int) < (n : Int)) = true := by rw [decide_eq_true_eq]; omega
      have e3 : decide (m < n) = true := by rw [decide_eq_true_eq]; omega
      clear hN hm hn
      go_enter Tryd.func3, Tryd.ntmps3
      go_wp2_with (go_at_call 5; refine hL.mono ?_; rintro e w2 ⟨rfl, hf⟩)
      go_ret
      exact ⟨rfl, hf⟩
  · have e1 : decide ((100 : Int) < (n : Int)) = true := by rw [decide_eq_true_eq]; omega
    clear hN hn
    go_enter Tryd.func3, Tryd.ntmps3
    go_wp2_with (go_at_call 5; refine hL.mono ?_; rintro e w2 ⟨rfl, hf⟩)
    go_ret
    exact ⟨rfl, hf⟩
end Go.Proofs.YtajcijocjbakbaaDoor
