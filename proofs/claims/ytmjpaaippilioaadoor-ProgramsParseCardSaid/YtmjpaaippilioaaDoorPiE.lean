import Derived.Test.YtmjpaaippilioaaDoorPiC
import Derived.Test.YtmjpaaippilioaaDoorPiD
import Derived.Test.YtmjpaaippilioaaDoorGrw
namespace Go.Proofs.YtmjpaaippilioaaDoor
open Go.RowKit

/-! ### Same -/
theorem neq71 (x : OpR) (w : World) : (binOp .neq 71 x.RV x.RV).run Tryd.prog w = .ok (.bool false) w := by
  rw [run_neq_struct, run_equalIn_agg _ 9999 71 _ _ (by kernel_rfl) (by kernel_rfl)]
  simp [Program.fieldsOf, Tryd.underlying71, Op.eqFields, go_sem]
theorem eqg71 (op : BinOp) (x y : Operand) (a b : Array Value) (w : World) : (eqGuard op 71 x y (.agg a) (.agg b)).run Tryd.prog w = .ok () w :=
  run_eqGuard_agg w op 71 x y _ _ (by kernel_rfl)
set_option maxRecDepth 100000 in
set_option maxHeartbeats 4000000 in
theorem same_any (A B : Option Addr) (n d : Nat) (xs : List OpR) (w : World) (ha : Rd w w.heap.size 7 A n (opsV xs)) (hb : Rd w w.heap.size 7 B n (opsR xs)) (hk : KOk xs) (hn : (n : Int) ≤ 1000) :
    Calls Tryd.prog 41 #[.slice A n n, .slice B n d] w fun e w' => e = .returned (.bool true) ∧ Frm w w' fun _ => False := by
  obtain ⟨hxl, hxc⟩ := Rd.rows OpR.cs_len (by decide) ha
  obtain ⟨-, hyc⟩ := Rd.rows OpR.rcs_len (by decide) hb
  have HXL := Lib.hid hxl
  have HXC := Lib.hid hxc
  have HYC := Lib.hid hyc
  have HK := Lib.hid hk
  have nn : ((n : Int) != (n : Int)) = false := by simp
  have eqn := neq71
  have eqg := eqg71
  clear ha hb hxl hxc hyc hk
  go_enter Tryd.func41, Tryd.ntmps41
  go_wp2_with fail
  go_loopw [5] (fun i wr => ∃ j : Nat, i = .int .i64 j ∧ j ≤ n ∧ Frm w wr fun _ => False) (fun i _ => n - (intOf i).toNat)
  case atStart => exact ⟨0, rfl, Nat.zero_le _, Frm.refl _ _⟩
  case round =>
    obtain ⟨j, rfl, hj, hF⟩ := hrel
    have F := Lib.hid hF
    have j0 : (0 : Int) ≤ (j : Int) := by omega
    have j1 : (j : Int) ≤ (n : Int) := by omega
    clear hF
    by_cases hlt : j < n
    · have j2 : (j : Int) < (n : Int) := by omega
      obtain ⟨g, off, rfl, -, hcx⟩ := HXC.out (by omega)
      obtain ⟨h, oh, rfl, -, hcy⟩ := HYC.out (by omega)
      have hjl : j < xs.length := by have := HXL.out; omega
      have hx := hcx j hjl
      have hy := hcy j hjl
      obtain ⟨q0, q1⟩ := HK.out _ (List.getElem_mem hjl)
      obtain ⟨X, hX⟩ : ∃ X, xs[j] = X := ⟨_, rfl⟩
      rw [hX] at hx hy q0 q1
      have HO := Lib.hid fun G : Grown wr => other_any X q0 q1 G.1
      have hq := eqn X
      obtain ⟨xk, xa, xo, xt, xfl, xfa, xg⟩ := X
      have x0 : wr.cell? ⟨g, off + j * 7, none⟩ = some (.int .u8 xk) := F.out.cell (hx 0 _ rfl) id
      have x1 : wr.cell? ⟨g, off + j * 7 + 1, none⟩ = some (.int .i64 xa) := F.out.cell (hx 1 _ rfl) id
      have x2 : wr.cell? ⟨g, off + j * 7 + 2, none⟩ = some (.int .i64 xo) := F.out.cell (hx 2 _ rfl) id
      have x3 : wr.cell? ⟨g, off + j * 7 + 3, none⟩ = some (.int .i64 xt) := F.out.cell (hx 3 _ rfl) id
      have x4 : wr.cell? ⟨g, off + j * 7 + 4, none⟩ = some (.bool xfl) := F.out.cell (hx 4 _ rfl) id
      have x5 : wr.cell? ⟨g, off + j * 7 + 5, none⟩ = some (.bool xfa) := F.out.cell (hx 5 _ rfl) id
      have x6 : wr.cell? ⟨g, off + j * 7 + 6, none⟩ = some (.int .i64 xg) := F.out.cell (hx 6 _ rfl) id
      have y0 : wr.cell? ⟨h, oh + j * 7, none⟩ = some (.int .i64 xk) := F.out.cell (hy 0 _ rfl) id
      have y1 : wr.cell? ⟨h, oh + j * 7 + 1, none⟩ = some (.int .i64 xa) := F.out.cell (hy 1 _ rfl) id
      have y2 : wr.cell? ⟨h, oh + j * 7 + 2, none⟩ = some (.int .i64 xo) := F.out.cell (hy 2 _ rfl) id
      have y3 : wr.cell? ⟨h, oh + j * 7 + 3, none⟩ = some (.int .i64 xt) := F.out.cell (hy 3 _ rfl) id
      have y4 : wr.cell? ⟨h, oh + j * 7 + 4, none⟩ = some (.bool xfl) := F.out.cell (hy 4 _ rfl) id
      have y5 : wr.cell? ⟨h, oh + j * 7 + 5, none⟩ = some (.bool xfa) := F.out.cell (hy 5 _ rfl) id
      have y6 : wr.cell? ⟨h, oh + j * 7 + 6, none⟩ = some (.int .i64 xg) := F.out.cell (hy 6 _ rfl) id
      clear hcx hcy hx hy hX q0 q1
      go_upto_region 6 with fail
      replace x0 := Grown.cell x0
      replace x1 := Grown.cell x1
      replace x2 := Grown.cell x2
      replace x3 := Grown.cell x3
      replace x4 := Grown.cell x4
      replace x5 := Grown.cell x5
      replace x6 := Grown.cell x6
      replace y0 := Grown.cell y0
      replace y1 := Grown.cell y1
      replace y2 := Grown.cell y2
      replace y3 := Grown.cell y3
      replace y4 := Grown.cell y4
      replace y5 := Grown.cell y5
      replace y6 := Grown.cell y6
      refine wp_region_grown wr (Frm.refl _ _) (by kernel_rfl) (by kernel_rfl) ?_
      repeat (go_big_quiet_step ((go_at_call 52; exact Calls.grown_of (HO.out _))))
      refine wpQuiet_nil ?_
      intro wq hq2
      have HQ := Lib.hid (F.out.then_ hq2)
      clear hq2 x0 x1 x2 x3 x4 x5 x6 y0 y1 y2 y3 y4 y5 y6
      go_wp2_with fail
      go_roundw
      case rel => exact ⟨j + 1, by go_num, by omega, HQ.out⟩
      case measure => simp [intOf]; omega
    · obtain rfl : j = n := by omega
      go_wp2_with fail
      go_ret
      exact ⟨rfl, F.out⟩
end Go.Proofs.YtmjpaaippilioaaDoor
