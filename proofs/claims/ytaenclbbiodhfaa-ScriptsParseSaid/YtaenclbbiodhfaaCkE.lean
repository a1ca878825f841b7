import Derived.Test.YtaenclbbiodhfaaCkD
import Derived.Laws.StructEq
namespace Go.Proofs.Ytaenclbbiodhfaa
open Go.RowKit

theorem grf {W : World} (F : Grown W) : Frm W F.1 fun _ => False := F.2
theorem Calls.grown_like {P : Program} {W : World} {f : FuncId} {args : Array Value} {F : Grown W} {v : Value} (h : Calls P f args F.1 fun e w' => e = .returned v ∧ F.1 = w') : Calls P f args F.1 fun e w'' => e = .returned v ∧ ∃ F' : Grown W, w'' = F'.1 := Calls.grown_same h
theorem at_world {P : Program} {c : Code} {Q : Exit → Act → World → Prop} {a : Act} {w : World} (h : ∀ W, W = w → c.wp P Q a W) : c.wp P Q a w := h w rfl
theorem eql73 (a a' : Bool) (n n' : Int) (w : World) : (binOp .eql 73 (.agg #[.bool a, .int .u64 n]) (.agg #[.bool a', .int .u64 n'])).run Try.prog w = .ok (.bool (a == a' && n == n')) w := by
  rw [run_eql_struct, run_equalIn_agg _ 9999 73 _ _ (by kernel_rfl) (by kernel_rfl)]
  simp [Program.fieldsOf, Try.underlying73, Op.eqFields, go_sem]
  go_simp
  by_cases h : a = a' <;> by_cases h2 : n = n' <;> simp [h, h2]
theorem neq73 (a a' : Bool) (n n' : Int) (w : World) : (binOp .neq 73 (.agg #[.bool a, .int .u64 n]) (.agg #[.bool a', .int .u64 n'])).run Try.prog w = .ok (.bool (!(a == a' && n == n'))) w := by
  rw [run_neq_struct, run_equalIn_agg _ 9999 73 _ _ (by kernel_rfl) (by kernel_rfl)]
  simp [Program.fieldsOf, Try.underlying73, Op.eqFields, go_sem]
  go_simp
  by_cases h : a = a' <;> by_cases h2 : n = n' <;> simp [h, h2]
theorem eqg73 (op : BinOp) (x y : Operand) (a a' : Bool) (n n' : Int) (w : World) : (eqGuard op 73 x y (.agg #[.bool a, .int .u64 n]) (.agg #[.bool a', .int .u64 n'])).run Try.prog w = .ok () w :=
  run_eqGuard_agg w op 73 x y _ _ (by kernel_rfl)
/-- An act. -/
abbrev actV (k : Int) (n : Nat) (on : Bool) (at_ : Nat) (X : Option Addr) (m c : Nat) : Value := .agg #[.int .u8 k, .int .u64 n, .bool on, .int .u64 at_, .slice X m c]
set_option maxRecDepth 100000 in
set_option maxHeartbeats 1000000 in
theorem same_any (b c cap cap' now most : Nat) (A A' : Option Addr) (ds : List Nat) (k : Int) (n : Nat) (on : Bool) (at_ : Nat) (X : Option Addr) (m cx : Nat) (hn : U n) (w : World) (h : Clk w b A cap now most ds) (h' : Clk w c A' cap' now most ds) :
    Calls Try.prog 48 #[.pointer (some ⟨b, 0, none⟩), .pointer (some ⟨c, 0, none⟩), actV k n on at_ X m cx] w fun e w' => e = .returned (.bool true) ∧ Frm w w' fun _ => False := by
  have HP := Lib.hid h
  have HP' := Lib.hid h'
  clear h h'
  have e1 := eql73
  have e2 := eqg73
  go_enter Try.func48, Try.ntmps48
  go_wp2_with fail
  refine at_world ?_
  intro W hW
  have hf : Frm w W fun _ => False := by rw [hW]; exact (Frm.refl _ _).alloc _
  have H := Lib.hid (HP.out.new_ hf)
  have H' := Lib.hid (HP'.out.new_ hf)
  have d0 := Grown.cell H'.out.c0
  have d1 := Grown.cell H'.out.c1
  have b1 : W.cell? ⟨w.heap.size, 1, none⟩ = some (.int .u64 n) := by rw [hW, World.cell?_alloc_new]; rfl
  have b2 : W.cell? ⟨w.heap.size, 2, none⟩ = some (.bool on) := by rw [hW, World.cell?_alloc_new]; rfl
  have b3 : W.cell? ⟨w.heap.size, 3, none⟩ = some (.int .u64 at_) := by rw [hW, World.cell?_alloc_new]; rfl
  replace b1 := Grown.cell b1
  replace b2 := Grown.cell b2
  replace b3 := Grown.cell b3
  have HF := Lib.hid hf
  clear hf hW
  refine wp_region_grown W (Frm.refl _ _) (by kernel_rfl) (by kernel_rfl) ?_
  repeat (go_big_quiet_step (first
    | (go_at_call 39; refine Calls.grown_same (now_any _ _ _ _ _ _ _ (H.out.new_ (grf _))))
    | (go_at_call 41; refine Calls.grown_same (left_any _ _ _ _ _ _ _ (H.out.new_ (grf _))))
    | (go_at_call 38; refine Calls.grown_of (after_any _ _ _ _ _ _ n hn _ (H.out.new_ (grf _))))
    | (go_at_call 69; refine Calls.grown_of (rafter_any _ _ _ _ _ _ n hn _ (H'.out.new_ (grf _))))
    | (go_at_call 40; refine Calls.grown_of (come_any _ _ _ _ _ _ on at_ _ (H.out.new_ (grf _))))
    | (go_at_call 70; refine Calls.grown_of (rcome_any _ _ _ _ _ _ on at_ _ (H'.out.new_ (grf _))))))
  refine wpQuiet_nil ?_
  intro wq hq
  go_wp2_with fail
  go_ret
  exact ⟨rfl, HF.out.then_ hq⟩
end Go.Proofs.Ytaenclbbiodhfaa
