import Derived.Test.YtmjpaaippilioaaDoorPkC
import Derived.Test.YtmjpaaippilioaaDoorPgV
import Derived.Deep.RegionHeld3
namespace Go.Proofs.YtmjpaaippilioaaDoor
open Go.RowKit

/-! ### Write -/
theorem step_call2 {P : Program} {ops : Array Oper} {o : Oper} {a : Act} {w : World} {K : Act → World → Prop} {Q : Exit → Act → World → Prop} {E : Prop} {R : Ending → World → Prop}
    (hg : o.guard = none) (f : FuncId) {fn : Func} (hf : P.funcs[f]? = some fn) (hn : fn.name ≠ "runtime.NumGoroutine") (hb : fn.body ≠ none)
    (x y : Operand) (ts : Array TypeId) (hop : o.op = Op.call { callee := Callee.value (Operand.func f), args := #[x, y], argTypes := ts }) (u v : Value) (hx : a.eval x = u) (hy : a.eval y = v)
    (h : Calls P f #[u, v] w R) (hR : ∀ e w', R e w' → ∃ v, e = .returned v ∧ K (a.put o.dst v) w') :
    if Region.wanted o (yielded ops a.tmps) = true then Oper.wp P o a w K Q else E :=
  step_call hg f hf hn hb #[x, y] ts hop #[u, v] (by simp [hx, hy]) h hR
theorem f80n : Tryd.f80.name ≠ "runtime.NumGoroutine" := by decide
theorem f80b : Tryd.f80.body ≠ none := by intro h; cases h
set_option maxRecDepth 100000 in
theorem bit6 (b : Bool) (w : World) : Calls Tryd.prog 80 #[.bool b, .int .i64 6] w fun e w' => e = .returned (.int .u8 (if b then 64 else 0)) ∧ w = w' := by
  cases b
  · go_enter Tryd.func80, Tryd.ntmps80
    go_wp2_with fail
    go_ret
    exact ⟨rfl, rfl⟩
  · go_enter Tryd.func80, Tryd.ntmps80
    go_wp2_with fail
    go_ret
    exact ⟨rfl, rfl⟩
set_option maxRecDepth 100000 in
theorem bit7 (b : Bool) (w : World) : Calls Tryd.prog 80 #[.bool b, .int .i64 7] w fun e w' => e = .returned (.int .u8 (if b then 128 else 0)) ∧ w = w' := by
  cases b
  · go_enter Tryd.func80, Tryd.ntmps80
    go_wp2_with fail
    go_ret
    exact ⟨rfl, rfl⟩
  · go_enter Tryd.func80, Tryd.ntmps80
    go_wp2_with fail
    go_ret
    exact ⟨rfl, rfl⟩
theorem clip81 (A : Option Addr) (n c : Nat) (h : n ≤ c) (w : World) : Calls Tryd.prog 81 #[.slice A n c] w fun e w' => e = .returned (.slice A n n) ∧ w = w' := by
  have i0 : (0 : Int) ≤ (n : Int) := by omega
  have i1 : (n : Int) ≤ (c : Int) := by omega
  go_enter Tryd.func81, Tryd.ntmps81
  go_wp2
  go_ret
  exact ⟨rfl, rfl⟩
theorem or_low : ∀ a, a < 8 → ∀ o, o < 8 → bits BinOp.or IntKind.i64 ((a : Nat) : Int) (((o : Nat) : Int) * 8) = ((a + 8 * o : Nat) : Int) := by decide +kernel
theorem or_6 : ∀ m, m < 64 → ∀ b : Bool, bits BinOp.or IntKind.u8 ((m : Nat) : Int) (if b then 64 else 0) = ((m + (if b then 64 else 0) : Nat) : Int) := by decide +kernel
theorem or_7 : ∀ m, m < 128 → ∀ b : Bool, bits BinOp.or IntKind.u8 ((m : Nat) : Int) (if b then 128 else 0) = ((m + (if b then 128 else 0) : Nat) : Int) := by decide +kernel
theorem wrap_t (t : Int) (h0 : -1 ≤ t) (h1 : t < 255) : IntKind.u8.wrap t = ((if t < 0 then 255 else t.toNat : Nat) : Int) := by
  by_cases h : t < 0
  · obtain rfl : t = -1 := by omega
    decide
  · rw [if_neg h, IntKind.wrap_u8]
    omega
theorem frmA (w : World) (o : Obj) : Frm w (w.drew.alloc o) fun _ => False := (Frm.refl _ _).drew.alloc _
theorem u8_one4 (a b c d : Int) : ∀ u ∈ [Value.int .u8 a, .int .u8 b, .int .u8 c, .int .u8 d], u.oneCell' = true := by
  intro u hu
  simp at hu
  rcases hu with rfl | rfl | rfl | rfl <;> rfl
set_option maxRecDepth 100000 in
set_option maxHeartbeats 8000000 in
theorem write_any (A : Option Addr) (n c : Nat) (xs : List OpR) (w : World) (ht1 : T1 w) (hr : Rd w w.heap.size 7 A n (opsV xs)) (hk : KOk xs) (hn : (n : Int) ≤ 1000) :
    Calls Tryd.prog 50 #[.slice A n c] w fun e w' => WrPost xs n w e w' ∧ Frm w w' fun _ => False := by
  obtain ⟨i5, hi, hz0, hz1, hz2⟩ := info_parts info38b
  obtain ⟨hxl, hxc⟩ := Rd.rows OpR.cs_len (by decide) hr
  have HXL := Lib.hid hxl
  have HXC := Lib.hid hxc
  have HK := Lib.hid hk
  have HT := Lib.hid ht1
  clear hr hxl hxc hk ht1
  go_enter Tryd.func50, Tryd.ntmps50
  go_wp2_with fail
  go_loopw [4, 9] (fun so i wr => ∃ (j : Nat) (Ao : Option Addr) (co : Nat), i = .int .i64 j ∧ j ≤ n ∧ so = .slice Ao (j * 4) co ∧ Sl wr w.heap.size 1 Ao (j * 4) co (bz (wNs (xs.take j))) ∧ allO (xs.take j) = true ∧ Frm w wr fun _ => False) (fun _ i _ => n - (intOf i).toNat)
  case atStart => exact ⟨0, none, 0, rfl, Nat.zero_le _, rfl, Sl.nil _ _ _, rfl, Frm.refl _ _⟩
  case round =>
    obtain ⟨j, Ao, co, rfl, hj, rfl, hS, hal, hF⟩ := hrel
    have S := Lib.hid hS
    have F := Lib.hid hF
    have AL := Lib.hid hal
    have j0 : (0 : Int) ≤ (j : Int) := by omega
    have j1 : (j : Int) ≤ (n : Int) := by omega
    have HB := Lib.hid (show w.heap.size ≤ wr.heap.size from hF.size)
    clear hS hal hF
    by_cases hlt : j < n
    · have j2 : (j : Int) < (n : Int) := by omega
      obtain ⟨g, off, rfl, -, hc⟩ := HXC.out (by omega)
      have hjl : j < xs.length := by have := HXL.out; omega
      have hx := hc j hjl
      have e : xs.take (j + 1) = xs.take j ++ [xs[j]] := List.take_succ_eq_append_getElem hjl
      have eall : xs = xs.take j ++ (xs[j] :: xs.drop (j + 1)) := by rw [List.getElem_cons_drop, List.take_append_drop]
      obtain ⟨q0, q1⟩ := HK.out _ (List.getElem_mem hjl)
      obtain ⟨X, hX⟩ : ∃ X, xs[j] = X := ⟨_, rfl⟩
      rw [hX] at hx q0 q1 e eall
      have HMY := Lib.hid fun v (hv : Frm w v fun _ => False) => mayP_any Ut X X.k.toNat (by omega) (by omega) v (HT.out.new_ hv).tabs (HT.out.new_ hv).size
      cases hm : mayO Ut X with
      | false =>
        have hno : allO xs = false := by
          unfold allO
          rw [eall, List.all_append, List.all_cons, hm, Bool.false_and, Bool.and_false]
        simp only [hm] at HMY
        have HNO := Lib.hid hno
        obtain ⟨xk, xa, xo, xt, xfl, xfa, xg⟩ := X
        have x0 : wr.cell? ⟨g, off + j * 7, none⟩ = some (.int .u8 xk) := F.out.cell (hx 0 _ rfl) id
        have x1 : wr.cell? ⟨g, off + j * 7 + 1, none⟩ = some (.int .i64 xa) := F.out.cell (hx 1 _ rfl) id
        have x2 : wr.cell? ⟨g, off + j * 7 + 2, none⟩ = some (.int .i64 xo) := F.out.cell (hx 2 _ rfl) id
        have x3 : wr.cell? ⟨g, off + j * 7 + 3, none⟩ = some (.int .i64 xt) := F.out.cell (hx 3 _ rfl) id
        have x4 : wr.cell? ⟨g, off + j * 7 + 4, none⟩ = some (.bool xfl) := F.out.cell (hx 4 _ rfl) id
        have x5 : wr.cell? ⟨g, off + j * 7 + 5, none⟩ = some (.bool xfa) := F.out.cell (hx 5 _ rfl) id
        have x6 : wr.cell? ⟨g, off + j * 7 + 6, none⟩ = some (.int .i64 xg) := F.out.cell (hx 6 _ rfl) id
        clear hc hx hX e eall hm hno q0 q1
        go_upto_region 5 with fail
        refine at_world' ?_
        intro W hW
        have hFW : Frm wr W fun _ => False := by
          rw [hW]
          repeat (first | with_reducible refine Frm.setCell ?_ (fun h => absurd h (Nat.lt_irrefl _)) _ | with_reducible exact (Frm.refl _ _).alloc _)
        have p0 : W.cell? ⟨wr.heap.size, 0, none⟩ = some (.int .u8 xk) := by subst hW; go_simp
        have p1 : W.cell? ⟨wr.heap.size, 1, none⟩ = some (.int .i64 xa) := by subst hW; go_simp
        have p2 : W.cell? ⟨wr.heap.size, 2, none⟩ = some (.int .i64 xo) := by subst hW; go_simp
        have p3 : W.cell? ⟨wr.heap.size, 3, none⟩ = some (.int .i64 xt) := by subst hW; go_simp
        have p4 : W.cell? ⟨wr.heap.size, 4, none⟩ = some (.bool xfl) := by subst hW; go_simp
        have p5 : W.cell? ⟨wr.heap.size, 5, none⟩ = some (.bool xfa) := by subst hW; go_simp
        have p6 : W.cell? ⟨wr.heap.size, 6, none⟩ = some (.int .i64 xg) := by subst hW; go_simp
        have FW := Lib.hid (F.out.then_ hFW)
        have HWN2 := Lib.hid hFW
        obtain ⟨b, hb⟩ : ∃ b, wr.heap.size = b := ⟨_, rfl⟩
        have HOW := Lib.hid hb
        rw [hb] at p0 p1 p2 p3 p4 p5 p6 ⊢
        clear hW hb hFW x0 x1 x2 x3 x4 x5 x6
        go_wp2_with (go_at_call 46; refine (HMY.out _ FW.out).mono ?_; rintro e W1 ⟨rfl, hf⟩)
        go_ret2
        exact ⟨.inr ⟨HNO.out, rfl⟩, FW.out.then_ hf⟩
      | true =>
        obtain ⟨⟨k0, k1⟩, ⟨a0, a1⟩, ⟨o0, o1⟩, ⟨t0, t1⟩, g0, g1⟩ := may_bounds q0 hm
        have hal2 : allO (xs.take (j + 1)) = true := by
          have h := AL.out
          unfold allO at h ⊢
          rw [e, List.all_append, h, List.all_cons, hm]; rfl
        have hwn : wNs (xs.take (j + 1)) = wNs (xs.take j) ++ wN X := by rw [e, wNs_snoc]
        simp only [hm] at HMY
        obtain ⟨h63, hby⟩ : j * 4 + 4 ≤ maxLen ∧ (j * 4 + 4) * 1 ≤ 140737488355328 := by unfold maxLen; omega
        obtain ⟨xk, xa, xo, xt, xfl, xfa, xg⟩ := X
        simp only at k0 k1 a0 a1 o0 o1 t0 t1 g0 g1
        obtain ⟨xk, rfl⟩ := Int.eq_ofNat_of_zero_le k0
        obtain ⟨xa, rfl⟩ := Int.eq_ofNat_of_zero_le a0
        obtain ⟨xo, rfl⟩ := Int.eq_ofNat_of_zero_le o0
        obtain ⟨xg, rfl⟩ := Int.eq_ofNat_of_zero_le g0
        have r1 := or_low xa (by omega) xo (by omega)
        have r2 := or_6 (xa + 8 * xo) (by omega) xfl
        have r3 := or_7 (xa + 8 * xo + (if xfl then 64 else 0)) (by split <;> omega) xfa
        have r4 := wrap_t xt t0 t1
        have B6 := Lib.hid fun v => bit6 xfl v
        have B7 := Lib.hid fun v => bit7 xfa v
        have hwx : bz (wN ⟨(xk : Int), xa, xo, xt, xfl, xfa, xg⟩) = [.int .u8 (xk : Int), .int .u8 ((xa + 8 * xo + (if xfl then 64 else 0) + (if xfa then 128 else 0) : Nat) : Int), .int .u8 ((if xt < 0 then 255 else xt.toNat : Nat) : Int), .int .u8 (xg : Int)] := by
          unfold wN nN bz
          have h1 : ((xa : Int) + 8 * (xo : Int)).toNat = xa + 8 * xo := by omega
          simp only [h1, List.map_cons, List.map_nil, Int.toNat_natCast]
        obtain ⟨m0, hm0⟩ : ∃ m, xa + 8 * xo = m := ⟨_, rfl⟩
        have hm64 : m0 < 64 := by omega
        rw [hm0] at r1 r2 r3 hwx
        obtain ⟨v6, hv6⟩ : ∃ v : Int, (if xfl = true then 64 else 0) = v := ⟨_, rfl⟩
        obtain ⟨v7, hv7⟩ : ∃ v : Int, (if xfa = true then 128 else 0) = v := ⟨_, rfl⟩
        simp only [hv6] at B6
        simp only [hv7] at B7
        rw [hv6] at r2
        rw [hv7] at r3
        obtain ⟨m1, hm1⟩ : ∃ m, m0 + (if xfl = true then 64 else 0) = m := ⟨_, rfl⟩
        rw [hm1] at r2 r3 hwx
        obtain ⟨m2, hm2⟩ : ∃ m, m1 + (if xfa = true then 128 else 0) = m := ⟨_, rfl⟩
        rw [hm2] at r3 hwx
        obtain ⟨vt, hvt⟩ : ∃ v : Nat, (if xt < 0 then 255 else xt.toNat) = v := ⟨_, rfl⟩
        rw [hvt] at r4 hwx
        have HAL2 := Lib.hid hal2
        have HWN := Lib.hid hwn
        have HWX := Lib.hid hwx
        have g2 : (0 : Int) ≤ (xg : Int) := by omega
        have m00 : (0 : Int) ≤ (m0 : Int) := by omega
        have m01 : (m0 : Int) < 64 := by omega
        have o00 : (0 : Int) ≤ (xo : Int) := by omega
        have x0 : wr.cell? ⟨g, off + j * 7, none⟩ = some (.int .u8 (xk : Int)) := F.out.cell (hx 0 _ rfl) id
        have x1 : wr.cell? ⟨g, off + j * 7 + 1, none⟩ = some (.int .i64 (xa : Int)) := F.out.cell (hx 1 _ rfl) id
        have x2 : wr.cell? ⟨g, off + j * 7 + 2, none⟩ = some (.int .i64 (xo : Int)) := F.out.cell (hx 2 _ rfl) id
        have x3 : wr.cell? ⟨g, off + j * 7 + 3, none⟩ = some (.int .i64 xt) := F.out.cell (hx 3 _ rfl) id
        have x4 : wr.cell? ⟨g, off + j * 7 + 4, none⟩ = some (.bool xfl) := F.out.cell (hx 4 _ rfl) id
        have x5 : wr.cell? ⟨g, off + j * 7 + 5, none⟩ = some (.bool xfa) := F.out.cell (hx 5 _ rfl) id
        have x6 : wr.cell? ⟨g, off + j * 7 + 6, none⟩ = some (.int .i64 (xg : Int)) := F.out.cell (hx 6 _ rfl) id
        clear hc hx hX e eall hm q0 q1 hal2 hwn hwx hm0 hv6 hv7 hm1 hm2 hvt hm64 k0 a0 o0 g0
        go_upto_region 5 with fail
        refine at_world' ?_
        intro W hW
        have hFW : Frm wr W fun _ => False := by
          rw [hW]
          repeat (first | with_reducible refine Frm.setCell ?_ (fun h => absurd h (Nat.lt_irrefl _)) _ | with_reducible exact (Frm.refl _ _).alloc _)
        have p0 : W.cell? ⟨wr.heap.size, 0, none⟩ = some (.int .u8 (xk : Int)) := by subst hW; go_simp
        have p1 : W.cell? ⟨wr.heap.size, 1, none⟩ = some (.int .i64 (xa : Int)) := by subst hW; go_simp
        have p2 : W.cell? ⟨wr.heap.size, 2, none⟩ = some (.int .i64 (xo : Int)) := by subst hW; go_simp
        have p3 : W.cell? ⟨wr.heap.size, 3, none⟩ = some (.int .i64 xt) := by subst hW; go_simp
        have p4 : W.cell? ⟨wr.heap.size, 4, none⟩ = some (.bool xfl) := by subst hW; go_simp
        have p5 : W.cell? ⟨wr.heap.size, 5, none⟩ = some (.bool xfa) := by subst hW; go_simp
        have p6 : W.cell? ⟨wr.heap.size, 6, none⟩ = some (.int .i64 (xg : Int)) := by subst hW; go_simp
        have FW := Lib.hid (F.out.then_ hFW)
        have HWN2 := Lib.hid hFW
        obtain ⟨b, hb⟩ : ∃ b, wr.heap.size = b := ⟨_, rfl⟩
        have HOW := Lib.hid hb
        rw [hb] at p0 p1 p2 p3 p4 p5 p6 ⊢
        clear hW hb hFW x0 x1 x2 x3 x4 x5 x6
        go_upto_region 7 with (go_at_call 46; refine (HMY.out _ FW.out).mono ?_; rintro e W1 ⟨rfl, hf⟩; replace p0 := hf.cell p0 id; replace p1 := hf.cell p1 id; replace p2 := hf.cell p2 id; replace p3 := hf.cell p3 id; replace p4 := hf.cell p4 id; replace p5 := hf.cell p5 id; replace p6 := hf.cell p6 id; have G1 := Lib.hid (HWN2.out.then_ hf); clear hf)
        have FR := Lib.hid (F.out.then_ G1.out)
        have SR := Lib.hid (S.out.new_ G1.out)
        have HB1 := Lib.hid (Nat.le_trans HB.out G1.out.size)
        have SB := S
        clear F G1 HWN2 FW HMY HB
        have s1 : bits BinOp.or IntKind.i64 (xa : Int) (IntKind.i64.wrap ((xo : Int) * 8)) = (m0 : Int) := by
          rw [show IntKind.i64.wrap ((xo : Int) * 8) = (xo : Int) * 8 from IntWalk.i64_in _ (by omega)]
          exact r1
        have s2 : IntKind.u8.wrap (m0 : Int) = (m0 : Int) := by rw [IntKind.wrap_u8]; omega
        have s3 : IntKind.u8.wrap (xg : Int) = (xg : Int) := by rw [IntKind.wrap_u8]; omega
        clear r1
        have nbA : ¬ blk Ao b := fun h => by have := (SB.out.ge h).2; have := HOW.out; omega
        have P0 := Lib.hid p0
        have P1 := Lib.hid p1
        have P2 := Lib.hid p2
        have P3 := Lib.hid p3
        have P4 := Lib.hid p4
        have P5 := Lib.hid p5
        have P6 := Lib.hid p6
        have NB := Lib.hid nbA
        clear nbA
        go_region_held3 (fun w' => w'.cell? ⟨b, 0, none⟩ = some (.int .u8 (xk : Int)) ∧ w'.cell? ⟨b, 1, none⟩ = some (.int .i64 (xa : Int)) ∧ w'.cell? ⟨b, 2, none⟩ = some (.int .i64 (xo : Int)) ∧ w'.cell? ⟨b, 3, none⟩ = some (.int .i64 xt) ∧ w'.cell? ⟨b, 4, none⟩ = some (.bool xfl) ∧ w'.cell? ⟨b, 5, none⟩ = some (.bool xfa) ∧ w'.cell? ⟨b, 6, none⟩ = some (.int .i64 (xg : Int))) (first | assumption | go_keep | (refine ⟨?_, ?_, ?_, ?_, ?_, ?_, ?_⟩ <;> first | assumption | go_keep)) (first
          | (refine step_call2 rfl 80 Tryd.func80 f80n f80b (.tmp 27) _ _ rfl (.bool xfl) (.int .i64 6) rfl rfl (B6.out _) ?_; rintro e w2 ⟨rfl, rfl⟩; refine ⟨_, rfl, ?_⟩)
          | (refine step_call2 rfl 80 Tryd.func80 f80n f80b (.tmp 31) _ _ rfl (.bool xfa) (.int .i64 7) rfl rfl (B7.out _) ?_; rintro e w2 ⟨rfl, rfl⟩; refine ⟨_, rfl, ?_⟩)
          | (refine step_append_sl _ rfl (.tmp 16) (.tmp 40) 38 rfl w.heap.size 5 i5 _ 1 1 Tryd.underlying38 hi hz0 hz1 hz2 rfl (by decide) Ao (j * 4) co (bz (wNs (xs.take j))) (by go_simp) (SR.out.new_ (frmA _ _)) (some ⟨W1.heap.size, 0, none⟩) 4 4 [.int .u8 (xk : Int), .int .u8 (m2 : Int), .int .u8 (vt : Int), .int .u8 (xg : Int)] (by go_simp) (Rd.fresh_at _ 5 #[.int .u8 (xk : Int), .int .u8 (m2 : Int), .int .u8 (vt : Int), .int .u8 (xg : Int)] rfl (by simp)) (u8_one4 _ _ _ _) h63 hby (Nat.le_trans HB1.out (by simp)) ?_; intro A3 c3 w5 hap; replace hap := Lib.hid hap; have e0 := hap.out.2.1.cell (Frm.cell (frmA W1 _) P0.out id) NB.out; have e1 := hap.out.2.1.cell (Frm.cell (frmA W1 _) P1.out id) NB.out; have e2 := hap.out.2.1.cell (Frm.cell (frmA W1 _) P2.out id) NB.out; have e3 := hap.out.2.1.cell (Frm.cell (frmA W1 _) P3.out id) NB.out; have e4 := hap.out.2.1.cell (Frm.cell (frmA W1 _) P4.out id) NB.out; have e5 := hap.out.2.1.cell (Frm.cell (frmA W1 _) P5.out id) NB.out; have e6 := hap.out.2.1.cell (Frm.cell (frmA W1 _) P6.out id) NB.out))
        all_goals
          try dsimp only [Act.put]
          go_wp2_with fail
          go_roundw
          case rel =>
            have hF1 : Frm w w5 fun _ => False := Frm.trans (FR.out.then_ (frmA W1 _)) hap.out.2.1 (fun q hq h => absurd (SR.out.ge h).1 (by omega))
            refine ⟨j + 1, A3, c3, by go_num, by omega, by rw [Nat.add_mul], ?_, HAL2.out, hF1⟩
            rw [HWN.out, bz_app, HWX.out, Nat.add_mul, Nat.one_mul]
            exact hap.out.1
          case measure => simp [intOf]; omega
    · obtain rfl : j = n := by omega
      have hl : xs.take j = xs := List.take_of_length_le (by have := HXL.out; omega)
      have h1 := AL.out
      have h2 := S.out
      rw [hl] at h1 h2
      have H1 := Lib.hid h1
      have H2 := Lib.hid h2
      have hle := S.out.le
      have HLE := Lib.hid hle
      clear hl h1 h2 hle
      go_wp2_with (go_at_call 81; refine (clip81 _ _ _ HLE.out _).mono ?_; rintro e w9 ⟨rfl, rfl⟩)
      go_ret2
      exact ⟨.inl ⟨H1.out, Ao, j * 4, rfl, H2.out.clip (Nat.le_refl _) HLE.out⟩, F.out⟩
end Go.Proofs.YtmjpaaippilioaaDoor
