import Derived.Test.YtmjpaaippilioaaDoorPhW
import Derived.Test.YtmjpaaippilioaaDoorGrw
namespace Go.Proofs.YtmjpaaippilioaaDoor
open Go.RowKit

theorem neq50 (x : OpR) (w : World) : (binOp .neq 50 x.V x.V).run Tryd.prog w = .ok (.bool false) w := by
  rw [run_neq_struct, run_equalIn_agg _ 9999 50 _ _ (by kernel_rfl) (by kernel_rfl)]
  simp [Program.fieldsOf, Tryd.underlying50, Op.eqFields, go_sem]
theorem eqg50 (op : BinOp) (x y : Operand) (a b : Array Value) (w : World) : (eqGuard op 50 x y (.agg a) (.agg b)).run Tryd.prog w = .ok () w :=
  run_eqGuard_agg w op 50 x y _ _ (by kernel_rfl)
/-- A row of what Split returns. -/
theorem OwD.col {w : World} {B C g z : Nat} {hs : List Hd} {xs : List OpR} (h : OwD w B C (some ⟨g, 0, none⟩) z z hs (cols z xs)) {i : Nat} (hi : i < z) {q r : Nat} (hl : xs.length = q * z + r) (hr : r < z) :
    ∃ (Ai : Option Addr) (ci : Nat), w.cell? ⟨g, i, none⟩ = some (.slice Ai (q + if i < r then 1 else 0) ci) ∧ Sl w C 7 Ai (q + if i < r then 1 else 0) ci (opsV (YtmjpaaippilioaaDoor.col z i xs)) := by
  obtain ⟨Ai, ni, ci, q0, c0, _, hrow, _, hq⟩ := h.at hi
  obtain ⟨h1, h2⟩ := List.getElem?_eq_some_iff.1 hq
  rw [cols_at] at h2
  subst h2
  have hn : ni = q + if i < r then 1 else 0 := by
    have := hrow.len
    rw [opsV_len, col_len z i hi xs q r hl hr] at this
    omega
  rw [hn] at c0 hrow
  rw [Nat.zero_add] at c0
  exact ⟨Ai, ci, c0, hrow⟩
set_option maxRecDepth 100000 in
set_option maxHeartbeats 4000000 in
theorem turns_law (A : Option Addr) (n c : Nat) (zs : List Nat) (m : Nat) (w : World) (h : T2 w) (hr : Rd w w.heap.size 1 A n (bz zs)) (hz : ∀ z ∈ zs, z ≤ 255) (hnc : n ≤ c) (hc : c ≤ maxLen) (hm : m ≤ 255) :
    Calls Tryd.prog 13 #[.slice A n c, .int .u8 m] w fun e w' => e = .returned (.bool true) ∧ Frm w w' fun _ => False := by
  have H := Lib.hid h
  have HL := Lib.hid fun (v : World) (hv : Frm w v fun _ => False) => livesP_any v (H.out.new_ hv)
  have m0 : (0 : Int) ≤ (m : Int) := by omega
  have m1 : (m : Int) ≤ 255 := by omega
  have S0 : ∀ v, Calls Tryd.prog 42 #[.slice none 0 0, .int .i64 0] v fun e w' => e = .returned (.slice none 0 0) ∧ v = w' := fun v => split_none none 0 0 0 (by decide) v
  have S0 := Lib.hid S0
  have hlen : n = zs.length := by have := hr.1; simp [bz] at this; omega
  by_cases hn : n ≤ 800
  rotate_left
  · have hn' : (800 : Int) < (n : Int) := by omega
    clear h hr hz hnc hc hlen
    go_enter Tryd.func13, Tryd.ntmps13
    go_wp2_with (first
      | (go_at_call 42; refine (S0.out _).mono ?_; rintro e w1 ⟨rfl, rfl⟩)
      | (go_at_call 31; refine (HL.out _ (Frm.refl _ _)).mono ?_; rintro e w1 ⟨rfl, hf⟩))
    go_ret
    exact ⟨rfl, hf⟩
  have hn' : (n : Int) ≤ 800 := by omega
  by_cases hm0 : m = 0
  · subst hm0
    clear h hr hz hnc hc hlen
    go_enter Tryd.func13, Tryd.ntmps13
    go_wp2_with (first
      | (go_at_call 42; refine (S0.out _).mono ?_; rintro e w1 ⟨rfl, rfl⟩)
      | (go_at_call 31; refine (HL.out _ (Frm.refl _ _)).mono ?_; rintro e w1 ⟨rfl, hf⟩))
    go_ret
    exact ⟨rfl, hf⟩
  have hm2 : (1 : Int) ≤ (m : Int) := by omega
  have hme : ((m : Int) == 0) = false := by simp; omega
  have HP := Lib.hid (parse_all A n c zs w H.out.t1 hr hz (by omega) hnc hc)
  obtain ⟨xs, hxs⟩ : ∃ xs, parseL zs = xs := ⟨_, rfl⟩
  have hxl : xs.length = zs.length / 4 := by rw [← hxs, parseL_len]
  obtain ⟨L, hL⟩ : ∃ L, zs.length / 4 = L := ⟨_, rfl⟩
  rw [hL] at hxl
  rw [hxs, hL] at HP
  have hL200 : L ≤ 200 := by omega
  have L1 : (L : Int) ≤ 200 := by omega
  have HXL := Lib.hid hxl
  have HSP := Lib.hid fun (A : Option Addr) (v : World) (hr : Rd v v.heap.size 7 A L (opsV xs)) => split_any A L L m (by omega) (by omega) xs v hr (by omega)
  obtain ⟨z, hzz⟩ : ∃ z, min m 64 = z := ⟨_, rfl⟩
  rw [hzz] at HSP
  have hz1 : 1 ≤ z := by omega
  have hz64 : z ≤ 64 := by omega
  have z0 : (0 : Int) < (z : Int) := by omega
  have z1 : (z : Int) ≤ 64 := by omega
  have hmin : min (m : Int) 64 = (z : Int) := by omega
  have zz : ((z : Int) != (z : Int)) = false := by simp
  clear h hr hz hnc hc hlen hm0 hxs hxl hL hzz
  go_enter Tryd.func13, Tryd.ntmps13
  go_upto_region 4 with (go_at_call 39; refine HP.out.mono ?_; rintro e w1 ⟨Al, rfl, hSl, hf1⟩)
  have SL1 := Lib.hid hSl
  have F1 := Lib.hid hf1
  clear hSl hf1
  go_upto_region 8 with (go_at_call 42; refine (HSP.out Al w1 SL1.out.rd).mono ?_; rintro e w2 ⟨g, hs, rfl, hO, -, hf2⟩)
  have FW := Lib.hid (F1.out.then_ hf2)
  have HO := Lib.hid hO
  have RL := Lib.hid (Rd.rows OpR.cs_len (by decide) (SL1.out.new_ hf2).rd)
  have HL2 := Lib.hid fun (v : World) (hv : Frm w2 v fun _ => False) => HL.out v (FW.out.then_ hv)
  obtain ⟨Q, hQ⟩ : ∃ Q, L / z = Q := ⟨_, rfl⟩
  obtain ⟨R, hR⟩ : ∃ R, L % z = R := ⟨_, rfl⟩
  have hRz : R < z := by rw [← hR]; exact Nat.mod_lt _ (by omega)
  have hLQ : xs.length = Q * z + R := by rw [HXL.out, ← hQ, ← hR, Nat.mul_comm]; exact (Nat.div_add_mod L z).symm
  have hQL : Q ≤ L := by rw [← hQ]; exact Nat.div_le_self _ _
  have HLQ := Lib.hid hLQ
  have HRZ := Lib.hid hRz
  have HQL := Lib.hid hQL
  have HCol := Lib.hid fun (i : Nat) (hi : i < z) => HO.out.col hi hLQ hRz
  have eqn := neq50
  have eqg := eqg50
  clear hO hf2 hQ hR hRz hLQ hQL hmin zz
  go_loopw [7] (fun i wr => ∃ j : Nat, i = .int .i64 j ∧ j ≤ L ∧ Frm w2 wr fun _ => False) (fun i _ => L - (intOf i).toNat)
  case atStart => exact ⟨0, rfl, Nat.zero_le _, Frm.refl _ _⟩
  case round =>
    obtain ⟨j, rfl, hj, hF⟩ := hrel
    have F := Lib.hid hF
    have j0 : (0 : Int) ≤ (j : Int) := by omega
    have j1 : (j : Int) ≤ (L : Int) := by omega
    clear hF
    by_cases hlt : j < L
    · have j2 : (j : Int) < (L : Int) := by omega
      have hjl : j < xs.length := by have := HXL.out; omega
      obtain ⟨gl, ol, rfl, -, hcl⟩ := RL.out.2 (by omega)
      obtain ⟨p, hp⟩ : ∃ p, j % z = p := ⟨_, rfl⟩
      obtain ⟨a, ha⟩ : ∃ a, j / z = a := ⟨_, rfl⟩
      have hpz : p < z := by rw [← hp]; exact Nat.mod_lt _ (by omega)
      have hmod : (j : Int) % (z : Int) = (p : Int) := by rw [← hp]; exact (Int.natCast_emod j z).symm
      have hdiv : (j : Int) / (z : Int) = (a : Int) := by rw [← ha]; exact (Int.natCast_ediv j z).symm
      have haj : a ≤ j := by rw [← ha]; exact Nat.div_le_self _ _
      obtain ⟨Ap, cp, c0, hrow⟩ := HCol.out p hpz
      have hget := col_get z (by omega) xs j hjl
      rw [hp, ha] at hget
      obtain ⟨np, hnp⟩ : ∃ np, (Q + if p < R then 1 else 0) = np := ⟨_, rfl⟩
      rw [hnp] at c0 hrow
      have hcl2 : (YtmjpaaippilioaaDoor.col z p xs).length = np := by have := hrow.len; rw [opsV_len] at this; omega
      obtain ⟨ha2, hax⟩ := List.getElem?_eq_some_iff.1 hget
      have hanp : a < np := by omega
      obtain ⟨gp, op, rfl, _, _, hcp, _⟩ := hrow.form (by have := hrow.le; omega)
      have hcx := fun c v (hv : (xs[j]).cs[c]? = some v) => hcl j hjl c v hv
      have hcy : ∀ c v, c < 7 → (xs[j]).cs[c]? = some v → w2.cell? ⟨gp, op + a * 7 + c, none⟩ = some v := fun c v hc hv => by
        have := flat_get OpR.cs 7 OpR.cs_len (YtmjpaaippilioaaDoor.col z p xs) a c ha2 hc
        rw [hax, hv] at this
        rw [Nat.add_assoc]
        exact hcp _ _ this
      obtain ⟨X, hX⟩ : ∃ X, xs[j] = X := ⟨_, rfl⟩
      rw [hX] at hcx hcy
      obtain ⟨xk, xa, xo, xt, xfl, xfa, xg⟩ := X
      have x0 : wr.cell? ⟨gl, ol + j * 7, none⟩ = some (.int .u8 xk) := F.out.cell (hcx 0 _ rfl) id
      have x1 : wr.cell? ⟨gl, ol + j * 7 + 1, none⟩ = some (.int .i64 xa) := F.out.cell (hcx 1 _ rfl) id
      have x2 : wr.cell? ⟨gl, ol + j * 7 + 2, none⟩ = some (.int .i64 xo) := F.out.cell (hcx 2 _ rfl) id
      have x3 : wr.cell? ⟨gl, ol + j * 7 + 3, none⟩ = some (.int .i64 xt) := F.out.cell (hcx 3 _ rfl) id
      have x4 : wr.cell? ⟨gl, ol + j * 7 + 4, none⟩ = some (.bool xfl) := F.out.cell (hcx 4 _ rfl) id
      have x5 : wr.cell? ⟨gl, ol + j * 7 + 5, none⟩ = some (.bool xfa) := F.out.cell (hcx 5 _ rfl) id
      have x6 : wr.cell? ⟨gl, ol + j * 7 + 6, none⟩ = some (.int .i64 xg) := F.out.cell (hcx 6 _ rfl) id
      have y0 : wr.cell? ⟨gp, op + a * 7, none⟩ = some (.int .u8 xk) := F.out.cell (hcy 0 _ (by decide) rfl) id
      have y1 : wr.cell? ⟨gp, op + a * 7 + 1, none⟩ = some (.int .i64 xa) := F.out.cell (hcy 1 _ (by decide) rfl) id
      have y2 : wr.cell? ⟨gp, op + a * 7 + 2, none⟩ = some (.int .i64 xo) := F.out.cell (hcy 2 _ (by decide) rfl) id
      have y3 : wr.cell? ⟨gp, op + a * 7 + 3, none⟩ = some (.int .i64 xt) := F.out.cell (hcy 3 _ (by decide) rfl) id
      have y4 : wr.cell? ⟨gp, op + a * 7 + 4, none⟩ = some (.bool xfl) := F.out.cell (hcy 4 _ (by decide) rfl) id
      have y5 : wr.cell? ⟨gp, op + a * 7 + 5, none⟩ = some (.bool xfa) := F.out.cell (hcy 5 _ (by decide) rfl) id
      have y6 : wr.cell? ⟨gp, op + a * 7 + 6, none⟩ = some (.int .i64 xg) := F.out.cell (hcy 6 _ (by decide) rfl) id
      have d0 : wr.cell? ⟨g, p, none⟩ = some (.slice (some ⟨gp, op, none⟩) np cp) := F.out.cell c0 id
      have hq := eqn ⟨xk, xa, xo, xt, xfl, xfa, xg⟩
      have p0 : (0 : Int) ≤ (p : Int) := by omega
      have p1 : (p : Int) < (z : Int) := by omega
      have a0 : (0 : Int) ≤ (a : Int) := by omega
      have a1 : (a : Int) < (np : Int) := by omega
      have hzne : ¬ z = 0 := by omega
      have hale : ¬ (np : Int) ≤ (a : Int) := by omega
      have halb : decide ((np : Int) ≤ (a : Int)) = false := by rw [decide_eq_false_iff_not]; exact hale
      have hwa : wrap64 (a : Int) = (a : Int) := IntWalk.wrap64_in _ (by omega)
      clear hcl hp ha hget hnp hrow hcl2 ha2 hax hcp hcx hcy hX c0 hanp haj
      go_upto_region 11 with fail
      replace x0 := Grown.cell x0
      replace x1 := Grown.cell x1
      replace x2 := Grown.cell x2
      replace x3 := Grown.cell x3
      replace x4 := Grown.cell x4
      replace x5 := Grown.cell x5
      replace x6 := Grown.cell x6
      replace y0 := Grown.cell y0
      replace y1 := Grown.cell y1
      replace y2 := Grown.cell y2
      replace y3 := Grown.cell y3
      replace y4 := Grown.cell y4
      replace y5 := Grown.cell y5
      replace y6 := Grown.cell y6
      replace d0 := Grown.cell d0
      refine wp_region_grown wr (Frm.refl _ _) (by kernel_rfl) (by kernel_rfl) ?_
      repeat (go_big_quiet_step (fail))
      refine wpQuiet_nil ?_
      intro wq hq2
      have HQ := Lib.hid (F.out.then_ hq2)
      clear hq2 x0 x1 x2 x3 x4 x5 x6 y0 y1 y2 y3 y4 y5 y6 d0
      go_wp2_with fail
      go_roundw
      case rel => exact ⟨j + 1, by go_num, by omega, HQ.out⟩
      case measure => simp [intOf]; omega
    · obtain rfl : j = L := by omega
      have hj0 := j0
      have hLQ := HLQ.out
      rw [HXL.out] at hLQ
      have HLQ2 := Lib.hid hLQ
      have hRz := HRZ.out
      have hQ200 := HQL.out
      have FA := Lib.hid F.out
      clear F hlt hj eqn eqg hLQ
      go_wp2_with fail
      go_loopw [9, 10] (fun s i wr => ∃ k : Nat, i = .int .i64 k ∧ k ≤ z ∧ s = .int .i64 ((k * Q + min k R : Nat) : Int) ∧ Frm w2 wr fun _ => False) (fun _ i _ => z - (intOf i).toNat)
      case atStart => exact ⟨0, rfl, Nat.zero_le _, by simp, FA.out⟩
      case round =>
        clear FA
        obtain ⟨k, rfl, hk, rfl, hF⟩ := hrel
        have F := Lib.hid hF
        have k0 : (0 : Int) ≤ (k : Int) := by omega
        have k1 : (k : Int) ≤ (z : Int) := by omega
        clear hF
        by_cases hlt : k < z
        · have k2 : (k : Int) < (z : Int) := by omega
          obtain ⟨Ak, ck, c0, hrow⟩ := HCol.out k hlt
          obtain ⟨A0, c00, c1, hrow0⟩ := HCol.out 0 (by omega)
          obtain ⟨nk, hnk⟩ : ∃ nk, (Q + if k < R then 1 else 0) = nk := ⟨_, rfl⟩
          obtain ⟨n0, hn0⟩ : ∃ n0, (Q + if 0 < R then 1 else 0) = n0 := ⟨_, rfl⟩
          rw [hnk] at c0
          rw [hn0] at c1
          have hle1 : nk ≤ n0 := by rw [← hnk, ← hn0]; split <;> split <;> omega
          have hle2 : n0 ≤ nk + 1 := by rw [← hnk, ← hn0]; split <;> split <;> omega
          have hnk2 : nk ≤ 201 := by rw [← hnk]; split <;> omega
          have hkq : k * Q ≤ 64 * 200 := Nat.mul_le_mul (by omega) (by omega)
          have hstep : (k + 1) * Q + min (k + 1) R = (k * Q + min k R) + nk := by
            rw [← hnk, Nat.add_mul, Nat.one_mul]
            split <;> omega
          have HST := Lib.hid hstep
          obtain ⟨s, hs⟩ : ∃ s, k * Q + min k R = s := ⟨_, rfl⟩
          have hs2 : s ≤ 13000 := by rw [← hs]; omega
          rw [hs] at HST ⊢
          have s0 : (0 : Int) ≤ (s : Int) := by omega
          have s1 : (s : Int) ≤ 13000 := by omega
          have d0 : wr.cell? ⟨g, k, none⟩ = some (.slice Ak nk ck) := F.out.cell c0 id
          have d1 : wr.cell? ⟨g, 0, none⟩ = some (.slice A0 n0 c00) := F.out.cell c1 id
          have n1 : (0 : Int) ≤ (nk : Int) := by omega
          have n2 : (nk : Int) ≤ 201 := by omega
          have HLE1 := Lib.hid hle1
          have HLE2 := Lib.hid hle2
          clear hrow hrow0 hnk hn0 hle1 hle2 hnk2 hkq hstep hs hs2 c0 c1
          go_upto_region 18 with fail
          have hle1 := HLE1.out
          have hle2 := HLE2.out
          have n3 : ¬ (n0 : Int) < (nk : Int) := by omega
          have n4 : ¬ (nk : Int) + 1 < (n0 : Int) := by omega
          have n5 : decide ((n0 : Int) < (nk : Int)) = false := by rw [decide_eq_false_iff_not]; exact n3
          have n6 : decide ((nk : Int) + 1 < (n0 : Int)) = false := by rw [decide_eq_false_iff_not]; exact n4
          clear hle1 hle2
          replace d0 := Grown.cell d0
          replace d1 := Grown.cell d1
          refine wp_region_grown wr (Frm.refl _ _) (by kernel_rfl) (by kernel_rfl) ?_
          repeat (go_big_quiet_step (fail))
          refine wpQuiet_nil ?_
          intro wq hq2
          have HQ := Lib.hid (F.out.then_ hq2)
          clear hq2 d0 d1
          go_wp2_with fail
          go_roundw
          case rel => exact ⟨k + 1, by go_num, by omega, by rw [HST.out]; go_num, HQ.out⟩
          case measure => simp [intOf]; omega
        · obtain rfl : k = z := by omega
          have e : k * Q + min k R = j := by
            have := HLQ2.out
            rw [Nat.mul_comm k Q]; omega
          rw [e]
          have ee : ((j : Int) == (j : Int)) = true := by simp
          clear e hlt hk
          go_wp2_with (go_at_call 31; refine (HL2.out _ F.out).mono ?_; rintro e w6 ⟨rfl, hf⟩)
          go_ret
          exact ⟨rfl, FW.out.then_ (F.out.then_ hf)⟩
end Go.Proofs.YtmjpaaippilioaaDoor
