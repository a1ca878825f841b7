import Derived.Test.YtajcijocjbakbaaTbU
namespace Go.Proofs.Ytajcijocjbakbaa
open Go.RowKit

set_option maxRecDepth 100000 in
theorem otherP_any (d i : Int) (w : World) : Calls Try.prog 35 #[plV d i] w fun e w' => e = .returned (plV d i) ∧ Frm w w' fun _ => False := by
  go_enter Try.func35, Try.ntmps35
  go_wp2
  refine bodyPost_ret (v := plV d i) (by simp [results, Try.results35, go_sem]) rfl ⟨rfl, ?_⟩
  exact ((Frm.refl _ _).alloc _).alloc _
set_option maxRecDepth 100000 in
theorem otherT_any (a f : Int) (w : World) : Calls Try.prog 40 #[tmV a f] w fun e w' => e = .returned (tmV a f) ∧ Frm w w' fun _ => False := by
  go_enter Try.func40, Try.ntmps40
  go_wp2
  refine bodyPost_ret (v := tmV a f) (by simp [results, Try.results40, go_sem]) rfl ⟨rfl, ?_⟩
  exact ((Frm.refl _ _).alloc _).alloc _
theorem neq89 (a b : Int) (w : World) : (binOp .neq 89 (.agg #[.int .i64 a, .int .i64 b]) (.agg #[.int .i64 a, .int .i64 b])).run Try.prog w = .ok (.bool false) w := by
  rw [run_neq_struct, run_equalIn_agg _ 9999 89 _ _ (by kernel_rfl) (by kernel_rfl)]
  simp [Program.fieldsOf, Try.underlying89, Op.eqFields, go_sem]
theorem eqg89 (op : BinOp) (x y : Operand) (a b : Array Value) (w : World) : (eqGuard op 89 x y (.agg a) (.agg b)).run Try.prog w = .ok () w :=
  run_eqGuard_agg w op 89 x y _ _ (by kernel_rfl)
theorem neq96 (a b : Int) (w : World) : (binOp .neq 96 (.agg #[.int .u64 a, .int .u64 b]) (.agg #[.int .u64 a, .int .u64 b])).run Try.prog w = .ok (.bool false) w := by
  rw [run_neq_struct, run_equalIn_agg _ 9999 96 _ _ (by kernel_rfl) (by kernel_rfl)]
  simp [Program.fieldsOf, Try.underlying96, Op.eqFields, go_sem]
theorem eqg96 (op : BinOp) (x y : Operand) (a b : Array Value) (w : World) : (eqGuard op 96 x y (.agg a) (.agg b)).run Try.prog w = .ok () w :=
  run_eqGuard_agg w op 96 x y _ _ (by kernel_rfl)
set_option maxRecDepth 100000 in
set_option maxHeartbeats 1000000 in
theorem samePlaces_any (A A' : Option Addr) (n c' : Nat) (l : List (Int × Int)) (w : World) (hr : Rd w w.heap.size 2 A n (plc l)) (hr' : Rd w w.heap.size 2 A' n (plc l)) (hn : (n : Int) ≤ 100000) :
    Calls Try.prog 20 #[.slice A n n, .slice A' n c'] w fun e w' => e = .returned (.bool true) ∧ Frm w w' fun _ => False := by
  have HR := Lib.hid hr
  have HR' := Lib.hid hr'
  have hl : n = l.length := by have := hr.1; rw [plc_len] at this; omega
  have HL := Lib.hid hl
  have e1 := neq89
  have e2 := eqg89
  clear hr hr' hl
  go_enter Try.func20, Try.ntmps20
  go_wp2_with fail
  go_loopw [5] (fun i wr => ∃ k : Nat, i = .int .i64 k ∧ k ≤ n ∧ Frm w wr fun _ => False) (fun i _ => n - (intOf i).toNat)
  case atStart => exact ⟨0, rfl, Nat.zero_le _, Frm.refl _ _⟩
  case round =>
    obtain ⟨k, rfl, hk, hF⟩ := hrel
    have F := Lib.hid hF
    clear hF
    by_cases hlk : k < n
    · have k0 : (0 : Int) ≤ (k : Int) := by omega
      have k1 : (k : Int) < (n : Int) := by omega
      have hkl : k < l.length := by have := HL.out; omega
      obtain ⟨⟨pa, pb⟩, hx⟩ : ∃ x, l[k] = x := ⟨_, rfl⟩
      obtain ⟨-, hc⟩ := Rd.rows (c := fun p : Int × Int => [Value.int .i64 p.1, Value.int .i64 p.2]) (m := 2) (fun _ => rfl) (by decide) (HR.out.new_ F.out)
      obtain ⟨-, hc'⟩ := Rd.rows (c := fun p : Int × Int => [Value.int .i64 p.1, Value.int .i64 p.2]) (m := 2) (fun _ => rfl) (by decide) (HR'.out.new_ F.out)
      obtain ⟨g, o, rfl, -, cell⟩ := hc (by omega)
      obtain ⟨g', o', rfl, -, cell'⟩ := hc' (by omega)
      have p0 := cell k hkl 0 (.int .i64 pa) (by rw [hx]; rfl)
      have p1 := cell k hkl 1 (.int .i64 pb) (by rw [hx]; rfl)
      have q0 := cell' k hkl 0 (.int .i64 pa) (by rw [hx]; rfl)
      have q1 := cell' k hkl 1 (.int .i64 pb) (by rw [hx]; rfl)
      rw [Nat.add_zero] at p0 q0
      have HO := Lib.hid (fun F : Grown wr => otherP_any pa pb F.1)
      replace p0 := Grown.cell p0
      replace p1 := Grown.cell p1
      replace q0 := Grown.cell q0
      replace q1 := Grown.cell q1
      clear hc hc' cell cell' hx
      go_wp2_with fail
      refine wp_region_grown wr (Frm.refl _ _) (by kernel_rfl) (by kernel_rfl) ?_
      repeat (go_big_quiet_step ((go_at_call 35; refine Calls.grown_of (HO.out _))))
      refine wpQuiet_nil ?_
      intro wq hq
      have DQ := Lib.hid hq
      clear hq p0 p1 q0 q1
      go_wp2_with fail
      go_roundw
      case rel => exact ⟨k + 1, by go_num, by omega, F.out.then_ DQ.out⟩
      case measure => simp [intOf]; omega
    · obtain rfl : k = n := by omega
      go_wp2_with fail
      go_ret
      exact ⟨rfl, F.out⟩
end Go.Proofs.Ytajcijocjbakbaa
