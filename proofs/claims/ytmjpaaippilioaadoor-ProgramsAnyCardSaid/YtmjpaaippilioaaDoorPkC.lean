import Derived.Test.YtmjpaaippilioaaDoorPiL
namespace Go.Proofs.YtmjpaaippilioaaDoor
open Go.RowKit

/-! ### an operation's bytes -/
def nN (x : OpR) : Nat := (x.a + 8 * x.o).toNat + (if x.fl then 64 else 0) + (if x.fa then 128 else 0)
def wN (x : OpR) : List Nat := [x.k.toNat, nN x, if x.t < 0 then 255 else x.t.toNat, x.g.toNat]
theorem wN_len (x : OpR) : (wN x).length = 4 := rfl
def wNs (xs : List OpR) : List Nat := xs.flatMap wN
theorem wNs_len (xs : List OpR) : (wNs xs).length = xs.length * 4 := by
  unfold wNs
  induction xs with
  | nil => rfl
  | cons x r ih => rw [List.flatMap_cons, List.length_append, ih, wN_len, List.length_cons]; omega
theorem wNs_snoc (xs : List OpR) (x : OpR) : wNs (xs ++ [x]) = wNs xs ++ wN x := by simp [wNs, List.flatMap_append]
theorem bz_app (a b : List Nat) : bz (a ++ b) = bz a ++ bz b := by simp [bz]
theorem bz_one (l : List Nat) : ∀ u ∈ bz l, u.oneCell' = true := by
  intro u hu
  obtain ⟨z, _, rfl⟩ := List.mem_map.1 hu
  rfl
theorem may_bounds {x : OpR} (h0 : 0 ≤ x.k) (h : mayO Ut x = true) : (0 ≤ x.k ∧ x.k < 26) ∧ (0 ≤ x.a ∧ x.a < 8) ∧ (0 ≤ x.o ∧ x.o < 8) ∧ (-1 ≤ x.t ∧ x.t < 255) ∧ 0 ≤ x.g ∧ x.g < 256 := by
  unfold mayO at h
  simp only [Bool.and_eq_true, decide_eq_true_eq] at h
  obtain ⟨h1, ⟨h2, h3⟩, ⟨h4, h5⟩, ⟨h6, h7⟩, ⟨h8, h9⟩, -⟩ := h
  exact ⟨⟨h0, h1⟩, ⟨h2, h3⟩, ⟨h4, h5⟩, ⟨h6, h7⟩, h8, h9⟩
def allO (xs : List OpR) : Bool := xs.all (mayO Ut)
theorem info38b : (Tryd.prog.info? 5).map (fun i => (i.zero, i.size, i.bytes)) = some (some (.int .u8 0), 1, 1) := by kernel_rfl
/-- What Write returns. -/
def WrPost (xs : List OpR) (n : Nat) (w : World) (e : Ending) (w' : World) : Prop :=
  (allO xs = true ∧ ∃ A c, e = .returned (.tuple #[.slice A (n * 4) c, .bool true]) ∧ Sl w' w.heap.size 1 A (n * 4) c (bz (wNs xs))) ∨ (allO xs = false ∧ e = .returned (.tuple #[.slice none 0 0, .bool false]))
set_option maxRecDepth 100000 in
set_option maxHeartbeats 8000000 in
theorem write_ref (A : Option Addr) (n c : Nat) (xs : List OpR) (w : World) (hr : Rd w w.heap.size 7 A n (opsR xs)) (hk : KOk xs) (hn : (n : Int) ≤ 1000) :
    Calls Tryd.prog 51 #[.slice A n c] w fun e w' => WrPost xs n w e w' ∧ Frm w w' fun _ => False := by
  obtain ⟨i5, hi, hz0, hz1, hz2⟩ := info_parts info38b
  obtain ⟨hxl, hxc⟩ := Rd.rows OpR.rcs_len (by decide) hr
  have HXL := Lib.hid hxl
  have HXC := Lib.hid hxc
  have HK := Lib.hid hk
  clear hr hxl hxc hk
  go_enter Tryd.func51, Tryd.ntmps51
  go_wp2_with fail
  go_loopw [4, 5] (fun so i wr => ∃ (j : Nat) (Ao : Option Addr) (co : Nat), i = .int .i64 j ∧ j ≤ n ∧ so = .slice Ao (j * 4) co ∧ Sl wr w.heap.size 1 Ao (j * 4) co (bz (wNs (xs.take j))) ∧ allO (xs.take j) = true ∧ Frm w wr fun _ => False) (fun _ i _ => n - (intOf i).toNat)
  case atStart => exact ⟨0, none, 0, rfl, Nat.zero_le _, rfl, Sl.nil _ _ _, rfl, Frm.refl _ _⟩
  case round =>
    obtain ⟨j, Ao, co, rfl, hj, rfl, hS, hal, hF⟩ := hrel
    have S := Lib.hid hS
    have F := Lib.hid hF
    have AL := Lib.hid hal
    have j0 : (0 : Int) ≤ (j : Int) := by omega
    have j1 : (j : Int) ≤ (n : Int) := by omega
    have HB := Lib.hid (show w.heap.size ≤ wr.heap.size from hF.size)
    clear hS hal hF
    by_cases hlt : j < n
    · have j2 : (j : Int) < (n : Int) := by omega
      obtain ⟨g, off, rfl, -, hc⟩ := HXC.out (by omega)
      have hjl : j < xs.length := by have := HXL.out; omega
      have hx := hc j hjl
      have e : xs.take (j + 1) = xs.take j ++ [xs[j]] := List.take_succ_eq_append_getElem hjl
      have eall : xs = xs.take j ++ (xs[j] :: xs.drop (j + 1)) := by rw [List.getElem_cons_drop, List.take_append_drop]
      obtain ⟨q0, q1⟩ := HK.out _ (List.getElem_mem hjl)
      obtain ⟨X, hX⟩ : ∃ X, xs[j] = X := ⟨_, rfl⟩
      rw [hX] at hx q0 e eall
      have HMY := Lib.hid fun v => may_ref X q0 v
      cases hm : mayO Ut X with
      | false =>
        have hno : allO xs = false := by
          unfold allO
          rw [eall, List.all_append, List.all_cons, hm, Bool.false_and, Bool.and_false]
        simp only [hm] at HMY
        have HNO := Lib.hid hno
        obtain ⟨xk, xa, xo, xt, xfl, xfa, xg⟩ := X
        have x0 : wr.cell? ⟨g, off + j * 7, none⟩ = some (.int .i64 xk) := F.out.cell (hx 0 _ rfl) id
        have x1 : wr.cell? ⟨g, off + j * 7 + 1, none⟩ = some (.int .i64 xa) := F.out.cell (hx 1 _ rfl) id
        have x2 : wr.cell? ⟨g, off + j * 7 + 2, none⟩ = some (.int .i64 xo) := F.out.cell (hx 2 _ rfl) id
        have x3 : wr.cell? ⟨g, off + j * 7 + 3, none⟩ = some (.int .i64 xt) := F.out.cell (hx 3 _ rfl) id
        have x4 : wr.cell? ⟨g, off + j * 7 + 4, none⟩ = some (.bool xfl) := F.out.cell (hx 4 _ rfl) id
        have x5 : wr.cell? ⟨g, off + j * 7 + 5, none⟩ = some (.bool xfa) := F.out.cell (hx 5 _ rfl) id
        have x6 : wr.cell? ⟨g, off + j * 7 + 6, none⟩ = some (.int .i64 xg) := F.out.cell (hx 6 _ rfl) id
        clear hc hx hX e eall hm hno q0 q1
        go_upto_region 6 with fail
        refine at_world' ?_
        intro W hW
        have hFW : Frm wr W fun _ => False := by
          rw [hW]
          repeat (first | with_reducible refine Frm.setCell ?_ (fun h => absurd h (Nat.lt_irrefl _)) _ | with_reducible exact (Frm.refl _ _).alloc _)
        have p0 : W.cell? ⟨wr.heap.size, 0, none⟩ = some (.int .i64 xk) := by subst hW; go_simp
        have p1 : W.cell? ⟨wr.heap.size, 1, none⟩ = some (.int .i64 xa) := by subst hW; go_simp
        have p2 : W.cell? ⟨wr.heap.size, 2, none⟩ = some (.int .i64 xo) := by subst hW; go_simp
        have p3 : W.cell? ⟨wr.heap.size, 3, none⟩ = some (.int .i64 xt) := by subst hW; go_simp
        have p4 : W.cell? ⟨wr.heap.size, 4, none⟩ = some (.bool xfl) := by subst hW; go_simp
        have p5 : W.cell? ⟨wr.heap.size, 5, none⟩ = some (.bool xfa) := by subst hW; go_simp
        have p6 : W.cell? ⟨wr.heap.size, 6, none⟩ = some (.int .i64 xg) := by subst hW; go_simp
        have FW := Lib.hid (F.out.then_ hFW)
        have HWN2 := Lib.hid hFW
        obtain ⟨b, hb⟩ : ∃ b, wr.heap.size = b := ⟨_, rfl⟩
        have HOW := Lib.hid hb
        rw [hb] at p0 p1 p2 p3 p4 p5 p6 ⊢
        clear hW hb hFW x0 x1 x2 x3 x4 x5 x6
        go_wp2_with (go_at_call 47; refine (HMY.out _).mono ?_; rintro e W1 ⟨rfl, hf⟩)
        go_ret2
        exact ⟨.inr ⟨HNO.out, rfl⟩, FW.out.then_ hf⟩
      | true =>
        obtain ⟨⟨k0, k1⟩, ⟨a0, a1⟩, ⟨o0, o1⟩, ⟨t0, t1⟩, g0, g1⟩ := may_bounds q0 hm
        have hal2 : allO (xs.take (j + 1)) = true := by
          have h := AL.out
          unfold allO at h ⊢
          rw [e, List.all_append, h, List.all_cons, hm]; rfl
        have hwn : wNs (xs.take (j + 1)) = wNs (xs.take j) ++ wN X := by rw [e, wNs_snoc]
        simp only [hm] at HMY
        obtain ⟨h63, hby⟩ : j * 4 + 4 ≤ maxLen ∧ (j * 4 + 4) * 1 ≤ 140737488355328 := by unfold maxLen; omega
        obtain ⟨xk, xa, xo, xt, xfl, xfa, xg⟩ := X
        simp only at k0 k1 a0 a1 o0 o1 t0 t1 g0 g1
        obtain ⟨xk, rfl⟩ := Int.eq_ofNat_of_zero_le k0
        obtain ⟨xa, rfl⟩ := Int.eq_ofNat_of_zero_le a0
        obtain ⟨xo, rfl⟩ := Int.eq_ofNat_of_zero_le o0
        obtain ⟨xg, rfl⟩ := Int.eq_ofNat_of_zero_le g0
        have HAL2 := Lib.hid hal2
        have HWN := Lib.hid hwn
        have x0 : wr.cell? ⟨g, off + j * 7, none⟩ = some (.int .i64 (xk : Int)) := F.out.cell (hx 0 _ rfl) id
        have x1 : wr.cell? ⟨g, off + j * 7 + 1, none⟩ = some (.int .i64 (xa : Int)) := F.out.cell (hx 1 _ rfl) id
        have x2 : wr.cell? ⟨g, off + j * 7 + 2, none⟩ = some (.int .i64 (xo : Int)) := F.out.cell (hx 2 _ rfl) id
        have x3 : wr.cell? ⟨g, off + j * 7 + 3, none⟩ = some (.int .i64 xt) := F.out.cell (hx 3 _ rfl) id
        have x4 : wr.cell? ⟨g, off + j * 7 + 4, none⟩ = some (.bool xfl) := F.out.cell (hx 4 _ rfl) id
        have x5 : wr.cell? ⟨g, off + j * 7 + 5, none⟩ = some (.bool xfa) := F.out.cell (hx 5 _ rfl) id
        have x6 : wr.cell? ⟨g, off + j * 7 + 6, none⟩ = some (.int .i64 (xg : Int)) := F.out.cell (hx 6 _ rfl) id
        clear hc hx hX e eall hm q0 q1 hal2 hwn
        go_upto_region 6 with fail
        refine at_world' ?_
        intro W hW
        have hFW : Frm wr W fun _ => False := by
          rw [hW]
          repeat (first | with_reducible refine Frm.setCell ?_ (fun h => absurd h (Nat.lt_irrefl _)) _ | with_reducible exact (Frm.refl _ _).alloc _)
        have p0 : W.cell? ⟨wr.heap.size, 0, none⟩ = some (.int .i64 (xk : Int)) := by subst hW; go_simp
        have p1 : W.cell? ⟨wr.heap.size, 1, none⟩ = some (.int .i64 (xa : Int)) := by subst hW; go_simp
        have p2 : W.cell? ⟨wr.heap.size, 2, none⟩ = some (.int .i64 (xo : Int)) := by subst hW; go_simp
        have p3 : W.cell? ⟨wr.heap.size, 3, none⟩ = some (.int .i64 xt) := by subst hW; go_simp
        have p4 : W.cell? ⟨wr.heap.size, 4, none⟩ = some (.bool xfl) := by subst hW; go_simp
        have p5 : W.cell? ⟨wr.heap.size, 5, none⟩ = some (.bool xfa) := by subst hW; go_simp
        have p6 : W.cell? ⟨wr.heap.size, 6, none⟩ = some (.int .i64 (xg : Int)) := by subst hW; go_simp
        have FW := Lib.hid (F.out.then_ hFW)
        have HWN2 := Lib.hid hFW
        obtain ⟨b, hb⟩ : ∃ b, wr.heap.size = b := ⟨_, rfl⟩
        have HOW := Lib.hid hb
        rw [hb] at p0 p1 p2 p3 p4 p5 p6 ⊢
        clear hW hb hFW x0 x1 x2 x3 x4 x5 x6
        clear HOW
        go_upto_region 8 with (go_at_call 47; refine (HMY.out _).mono ?_; rintro e W1 ⟨rfl, hf⟩; replace p0 := hf.cell p0 id; replace p1 := hf.cell p1 id; replace p2 := hf.cell p2 id; replace p3 := hf.cell p3 id; replace p4 := hf.cell p4 id; replace p5 := hf.cell p5 id; replace p6 := hf.cell p6 id; have G1 := Lib.hid (HWN2.out.then_ hf); clear hf)
        have FR := Lib.hid (F.out.then_ G1.out)
        have SR := Lib.hid (S.out.new_ G1.out)
        have HB1 := Lib.hid (Nat.le_trans HB.out G1.out.size)
        clear S F G1 HWN2 FW HMY HB
        by_cases ht : xt < 0
        · obtain rfl : xt = -1 := by omega
          clear ht
          cases xfl with
          | true =>
            cases xfa with
            | true =>
                go_wp2_with (at_builtin; refine wpList_append_sl _ rfl (.tmp 40) (.tmp 51) 38 rfl w.heap.size 5 i5 _ 1 1 Tryd.underlying38 hi hz0 hz1 hz2 rfl (by decide) _ _ _ _ rfl (SR.out.alloc _) _ 4 4 (bz (wN ⟨xk, xa, xo, -1, true, true, xg⟩)) rfl (Rd.fresh_at _ 5 _ rfl rfl) (bz_one _) h63 hby (Nat.le_trans HB1.out (by simp)) ?_; intro A3 c3 w5 hap; replace hap := Lib.hid hap)
                go_roundw
                case rel =>
                  refine ⟨j + 1, A3, c3, by go_num, by omega, by rw [Nat.add_mul], ?_, HAL2.out, (FR.out.then_ ((Frm.refl _ _).alloc _)).trans hap.out.2.1 (fun q hq h => absurd (SR.out.ge h).1 (by omega))⟩
                  rw [HWN.out, bz_app, Nat.add_mul, Nat.one_mul]
                  exact hap.out.1
                case measure => simp [intOf]; omega
            | false =>
                go_wp2_with (at_builtin; refine wpList_append_sl _ rfl (.tmp 40) (.tmp 51) 38 rfl w.heap.size 5 i5 _ 1 1 Tryd.underlying38 hi hz0 hz1 hz2 rfl (by decide) _ _ _ _ rfl (SR.out.alloc _) _ 4 4 (bz (wN ⟨xk, xa, xo, -1, true, false, xg⟩)) rfl (Rd.fresh_at _ 5 _ rfl rfl) (bz_one _) h63 hby (Nat.le_trans HB1.out (by simp)) ?_; intro A3 c3 w5 hap; replace hap := Lib.hid hap)
                go_roundw
                case rel =>
                  refine ⟨j + 1, A3, c3, by go_num, by omega, by rw [Nat.add_mul], ?_, HAL2.out, (FR.out.then_ ((Frm.refl _ _).alloc _)).trans hap.out.2.1 (fun q hq h => absurd (SR.out.ge h).1 (by omega))⟩
                  rw [HWN.out, bz_app, Nat.add_mul, Nat.one_mul]
                  exact hap.out.1
                case measure => simp [intOf]; omega
          | false =>
            cases xfa with
            | true =>
                go_wp2_with (at_builtin; refine wpList_append_sl _ rfl (.tmp 40) (.tmp 51) 38 rfl w.heap.size 5 i5 _ 1 1 Tryd.underlying38 hi hz0 hz1 hz2 rfl (by decide) _ _ _ _ rfl (SR.out.alloc _) _ 4 4 (bz (wN ⟨xk, xa, xo, -1, false, true, xg⟩)) rfl (Rd.fresh_at _ 5 _ rfl rfl) (bz_one _) h63 hby (Nat.le_trans HB1.out (by simp)) ?_; intro A3 c3 w5 hap; replace hap := Lib.hid hap)
                go_roundw
                case rel =>
                  refine ⟨j + 1, A3, c3, by go_num, by omega, by rw [Nat.add_mul], ?_, HAL2.out, (FR.out.then_ ((Frm.refl _ _).alloc _)).trans hap.out.2.1 (fun q hq h => absurd (SR.out.ge h).1 (by omega))⟩
                  rw [HWN.out, bz_app, Nat.add_mul, Nat.one_mul]
                  exact hap.out.1
                case measure => simp [intOf]; omega
            | false =>
                go_wp2_with (at_builtin; refine wpList_append_sl _ rfl (.tmp 40) (.tmp 51) 38 rfl w.heap.size 5 i5 _ 1 1 Tryd.underlying38 hi hz0 hz1 hz2 rfl (by decide) _ _ _ _ rfl (SR.out.alloc _) _ 4 4 (bz (wN ⟨xk, xa, xo, -1, false, false, xg⟩)) rfl (Rd.fresh_at _ 5 _ rfl rfl) (bz_one _) h63 hby (Nat.le_trans HB1.out (by simp)) ?_; intro A3 c3 w5 hap; replace hap := Lib.hid hap)
                go_roundw
                case rel =>
                  refine ⟨j + 1, A3, c3, by go_num, by omega, by rw [Nat.add_mul], ?_, HAL2.out, (FR.out.then_ ((Frm.refl _ _).alloc _)).trans hap.out.2.1 (fun q hq h => absurd (SR.out.ge h).1 (by omega))⟩
                  rw [HWN.out, bz_app, Nat.add_mul, Nat.one_mul]
                  exact hap.out.1
                case measure => simp [intOf]; omega
        · obtain ⟨xt, rfl⟩ := Int.eq_ofNat_of_zero_le (show 0 ≤ xt by omega)
          have xt0 : ¬ (xt : Int) < 0 := ht
          clear ht
          cases xfl with
          | true =>
            cases xfa with
            | true =>
                go_wp2_with (at_builtin; refine wpList_append_sl _ rfl (.tmp 40) (.tmp 51) 38 rfl w.heap.size 5 i5 _ 1 1 Tryd.underlying38 hi hz0 hz1 hz2 rfl (by decide) _ _ _ _ rfl (SR.out.alloc _) _ 4 4 (bz (wN ⟨xk, xa, xo, xt, true, true, xg⟩)) rfl (Rd.fresh_at _ 5 _ rfl rfl) (bz_one _) h63 hby (Nat.le_trans HB1.out (by simp)) ?_; intro A3 c3 w5 hap; replace hap := Lib.hid hap)
                go_roundw
                case rel =>
                  refine ⟨j + 1, A3, c3, by go_num, by omega, by rw [Nat.add_mul], ?_, HAL2.out, (FR.out.then_ ((Frm.refl _ _).alloc _)).trans hap.out.2.1 (fun q hq h => absurd (SR.out.ge h).1 (by omega))⟩
                  rw [HWN.out, bz_app, Nat.add_mul, Nat.one_mul]
                  exact hap.out.1
                case measure => simp [intOf]; omega
            | false =>
                go_wp2_with (at_builtin; refine wpList_append_sl _ rfl (.tmp 40) (.tmp 51) 38 rfl w.heap.size 5 i5 _ 1 1 Tryd.underlying38 hi hz0 hz1 hz2 rfl (by decide) _ _ _ _ rfl (SR.out.alloc _) _ 4 4 (bz (wN ⟨xk, xa, xo, xt, true, false, xg⟩)) rfl (Rd.fresh_at _ 5 _ rfl rfl) (bz_one _) h63 hby (Nat.le_trans HB1.out (by simp)) ?_; intro A3 c3 w5 hap; replace hap := Lib.hid hap)
                go_roundw
                case rel =>
                  refine ⟨j + 1, A3, c3, by go_num, by omega, by rw [Nat.add_mul], ?_, HAL2.out, (FR.out.then_ ((Frm.refl _ _).alloc _)).trans hap.out.2.1 (fun q hq h => absurd (SR.out.ge h).1 (by omega))⟩
                  rw [HWN.out, bz_app, Nat.add_mul, Nat.one_mul]
                  exact hap.out.1
                case measure => simp [intOf]; omega
          | false =>
            cases xfa with
            | true =>
                go_wp2_with (at_builtin; refine wpList_append_sl _ rfl (.tmp 40) (.tmp 51) 38 rfl w.heap.size 5 i5 _ 1 1 Tryd.underlying38 hi hz0 hz1 hz2 rfl (by decide) _ _ _ _ rfl (SR.out.alloc _) _ 4 4 (bz (wN ⟨xk, xa, xo, xt, false, true, xg⟩)) rfl (Rd.fresh_at _ 5 _ rfl rfl) (bz_one _) h63 hby (Nat.le_trans HB1.out (by simp)) ?_; intro A3 c3 w5 hap; replace hap := Lib.hid hap)
                go_roundw
                case rel =>
                  refine ⟨j + 1, A3, c3, by go_num, by omega, by rw [Nat.add_mul], ?_, HAL2.out, (FR.out.then_ ((Frm.refl _ _).alloc _)).trans hap.out.2.1 (fun q hq h => absurd (SR.out.ge h).1 (by omega))⟩
                  rw [HWN.out, bz_app, Nat.add_mul, Nat.one_mul]
                  exact hap.out.1
                case measure => simp [intOf]; omega
            | false =>
                go_wp2_with (at_builtin; refine wpList_append_sl _ rfl (.tmp 40) (.tmp 51) 38 rfl w.heap.size 5 i5 _ 1 1 Tryd.underlying38 hi hz0 hz1 hz2 rfl (by decide) _ _ _ _ rfl (SR.out.alloc _) _ 4 4 (bz (wN ⟨xk, xa, xo, xt, false, false, xg⟩)) rfl (Rd.fresh_at _ 5 _ rfl rfl) (bz_one _) h63 hby (Nat.le_trans HB1.out (by simp)) ?_; intro A3 c3 w5 hap; replace hap := Lib.hid hap)
                go_roundw
                case rel =>
                  refine ⟨j + 1, A3, c3, by go_num, by omega, by rw [Nat.add_mul], ?_, HAL2.out, (FR.out.then_ ((Frm.refl _ _).alloc _)).trans hap.out.2.1 (fun q hq h => absurd (SR.out.ge h).1 (by omega))⟩
                  rw [HWN.out, bz_app, Nat.add_mul, Nat.one_mul]
                  exact hap.out.1
                case measure => simp [intOf]; omega
    · obtain rfl : j = n := by omega
      have hl : xs.take j = xs := List.take_of_length_le (by have := HXL.out; omega)
      have h1 := AL.out
      have h2 := S.out
      rw [hl] at h1 h2
      have H1 := Lib.hid h1
      have H2 := Lib.hid h2
      clear hl h1 h2
      go_wp2_with fail
      go_ret2
      exact ⟨.inl ⟨H1.out, Ao, co, rfl, H2.out⟩, F.out⟩
end Go.Proofs.YtmjpaaippilioaaDoor
