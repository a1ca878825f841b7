import Derived.Test.YtajcijocjbakbaaTbQ
namespace Go.Proofs.Ytajcijocjbakbaa
open Go.RowKit

theorem VFew.of {v : List Vt} (h : ∀ p ∈ v, (p.2.flatMap (·.2.2)).length ≤ 4000) : VFew v := by
  intro d
  unfold vrow vget
  cases hf : v.find? (fun p => p.1 = d) with
  | none => simp
  | some p => exact h p (List.mem_of_find?_eq_some hf)
instance : DecidableEq En := fun a b => decidable_of_iff (a.t = b.t ∧ a.k = b.k ∧ a.tok = b.tok) (by cases a; cases b; simp)
theorem eql33 (a b a' b' : Int) (w : World) : (binOp .eql 33 (.agg #[.int .u64 a, .int .u64 b]) (.agg #[.int .u64 a', .int .u64 b'])).run Try.prog w = .ok (.bool (a == a' && b == b')) w := by
  rw [run_eql_struct, run_equalIn_agg _ 9999 33 _ _ (by kernel_rfl) (by kernel_rfl)]
  simp [Program.fieldsOf, Try.underlying33, Op.eqFields, go_sem]
  go_simp
  by_cases h : a = a' <;> by_cases h2 : b = b' <;> simp [h, h2]
theorem neq33 (a b a' b' : Int) (w : World) : (binOp .neq 33 (.agg #[.int .u64 a, .int .u64 b]) (.agg #[.int .u64 a', .int .u64 b'])).run Try.prog w = .ok (.bool (!(a == a' && b == b'))) w := by
  rw [run_neq_struct, run_equalIn_agg _ 9999 33 _ _ (by kernel_rfl) (by kernel_rfl)]
  simp [Program.fieldsOf, Try.underlying33, Op.eqFields, go_sem]
  go_simp
  by_cases h : a = a' <;> by_cases h2 : b = b' <;> simp [h, h2]
theorem eqg33 (op : BinOp) (x y : Operand) (a b a' b' : Int) (w : World) : (eqGuard op 33 x y (.agg #[.int .u64 a, .int .u64 b]) (.agg #[.int .u64 a', .int .u64 b'])).run Try.prog w = .ok () w :=
  run_eqGuard_agg w op 33 x y _ _ (by kernel_rfl)
theorem eql37 (a b a' b' : Int) (w : World) : (binOp .eql 37 (.agg #[.int .i64 a, .int .i64 b]) (.agg #[.int .i64 a', .int .i64 b'])).run Try.prog w = .ok (.bool (a == a' && b == b')) w := by
  rw [run_eql_struct, run_equalIn_agg _ 9999 37 _ _ (by kernel_rfl) (by kernel_rfl)]
  simp [Program.fieldsOf, Try.underlying37, Op.eqFields, go_sem]
  go_simp
  by_cases h : a = a' <;> by_cases h2 : b = b' <;> simp [h, h2]
theorem neq37 (a b a' b' : Int) (w : World) : (binOp .neq 37 (.agg #[.int .i64 a, .int .i64 b]) (.agg #[.int .i64 a', .int .i64 b'])).run Try.prog w = .ok (.bool (!(a == a' && b == b'))) w := by
  rw [run_neq_struct, run_equalIn_agg _ 9999 37 _ _ (by kernel_rfl) (by kernel_rfl)]
  simp [Program.fieldsOf, Try.underlying37, Op.eqFields, go_sem]
  go_simp
  by_cases h : a = a' <;> by_cases h2 : b = b' <;> simp [h, h2]
theorem eqg37 (op : BinOp) (x y : Operand) (a b a' b' : Int) (w : World) : (eqGuard op 37 x y (.agg #[.int .i64 a, .int .i64 b]) (.agg #[.int .i64 a', .int .i64 b'])).run Try.prog w = .ok () w :=
  run_eqGuard_agg w op 37 x y _ _ (by kernel_rfl)
/-! ### lives -/
def lq : List En := [⟨1, 0, 0⟩, ⟨2, 2, 0⟩]
theorem lq_ok : ∀ x ∈ lq, EnOk x := by
  intro x hx
  simp [lq] at hx
  rcases hx with rfl | rfl <;> exact ⟨by decide, by decide⟩
def lv1 : List Vt := vputq (vnew 5) 2 0 lq
def lv2 : List Vt := vgrow lv1 2 3 9
set_option maxRecDepth 100000 in
theorem lv_facts : vtm (vnew 5) 2 3 = (5, 5) ∧ (vk (vnew 5) 2 0).isSome = true ∧ vcan lv1 2 3 = true ∧ vq lv2 3 0 = [⟨1, 0, 0⟩] ∧ vq lv2 3 1 = [⟨2, 2, 0⟩] ∧ pls 2 lv2 = [(3, 1)] ∧ vq lv2 2 0 = [] ∧ (∀ p ∈ vnew 5, (p.2.flatMap (·.2.2)).length ≤ 4000) ∧ (∀ p ∈ lv1, (p.2.flatMap (·.2.2)).length ≤ 4000) ∧ (∀ p ∈ lv2, (p.2.flatMap (·.2.2)).length ≤ 4000) := by decide +kernel
set_option maxRecDepth 100000 in
set_option maxHeartbeats 1000000 in
theorem lives_any (w : World) : Calls Try.prog 7 #[] w fun e w' => e = .returned (.bool true) ∧ Frm w w' fun _ => False := by
  go_enter Try.func7, Try.ntmps7
  go_wp2_with fail
  refine (new_v 5 _).mono ?_
  rintro _ w1 ⟨s, rfl, hV, hf⟩
  have V1 := Lib.hid hV
  have F1 := Lib.hid hf
  clear hV hf
  go_wp2_with fail
  refine (timer_v V1.out 2 3).mono ?_
  rintro _ w2 ⟨rfl, hf⟩
  rw [show vtm (vnew 5) 2 3 = (5, 5) from lv_facts.1]
  have V2 := Lib.hid (V1.out.new_ hf)
  have F2 := Lib.hid (F1.out.then_ hf)
  clear hf V1 F1
  go_wp2_with fail
  obtain ⟨bx, hbx⟩ : ∃ n, w2.heap.size = n := ⟨_, rfl⟩
  have hG : Frm w2 ((w2.alloc (.cells #[.int .u64 5, .int .u64 5] 33)).alloc (.cells #[.int .i64 1, .int .u32 0, .int .u64 0, .int .i64 2, .int .u32 2, .int .u64 0] 43)) fun _ => False := ((Frm.refl w2 fun _ => False).alloc _).alloc _
  have V3 := (V2.out.sub (O' := fun j => w.heap.size ≤ j ∧ j ≠ bx) (fun j h1 h2 _ => ⟨h1, by omega⟩)).new_ hG
  have d0 : ((w2.alloc (.cells #[.int .u64 5, .int .u64 5] 33)).alloc (.cells #[.int .i64 1, .int .u32 0, .int .u64 0, .int .i64 2, .int .u32 2, .int .u64 0] 43)).cell? ⟨bx, 0, none⟩ = some (.int .u64 5) := by subst hbx; simp
  have d1 : ((w2.alloc (.cells #[.int .u64 5, .int .u64 5] 33)).alloc (.cells #[.int .i64 1, .int .u32 0, .int .u64 0, .int .i64 2, .int .u32 2, .int .u64 0] 43)).cell? ⟨bx, 1, none⟩ = some (.int .u64 5) := by subst hbx; simp
  have hls : bx < ((w2.alloc (.cells #[.int .u64 5, .int .u64 5] 33)).alloc (.cells #[.int .i64 1, .int .u32 0, .int .u64 0, .int .i64 2, .int .u32 2, .int .u64 0] 43)).heap.size := by subst hbx; simp; omega
  refine (put_v V3 2 0 (some ⟨w2.heap.size + 1, 0, none⟩) 2 2 lq (Rd.fresh_at _ 43 #[.int .i64 1, .int .u32 0, .int .u64 0, .int .i64 2, .int .u32 2, .int .u64 0] rfl (by simp)) (by simp) (by omega) (by omega) lq_ok).mono ?_
  rintro _ w3 ⟨rfl, hV, hf⟩
  have D := Lib.hid (And.intro (hf.cell d0 (fun h => h.2 rfl)) (hf.cell d1 (fun h => h.2 rfl)))
  have V4 : Hid (SetV w3 w.heap.size s (fun j => w.heap.size ≤ j ∧ j ≠ bx) lv1) := Lib.hid (hV.sub (O' := fun j => w.heap.size ≤ j ∧ j ≠ bx) (fun j h1 _ h3 => h3.elim id fun h => ⟨h1, by omega⟩))
  have F3 := Lib.hid ((F2.out.then_ hG).fresh hf (fun j hj => hj.1))
  have HS3 := Lib.hid (Nat.lt_of_lt_of_le hls hf.size)
  rw [lv_facts.2.1, hbx]
  clear hV hf V2 F2 V3 d0 d1 hls hG hbx
  go_wp2_with fail
  refine (grow_v V4.out (VFew.of lv_facts.2.2.2.2.2.2.2.2.1) 2 3 9).mono ?_
  rintro _ w4 ⟨rfl, hV, hf⟩
  have D4 := Lib.hid (And.intro (hf.cell D.out.1 (fun h => h.2 rfl)) (hf.cell D.out.2 (fun h => h.2 rfl)))
  have V5 : Hid (SetV w4 w.heap.size s (fun j => w.heap.size ≤ j ∧ j ≠ bx) lv2) := Lib.hid (hV.sub (O' := fun j => w.heap.size ≤ j ∧ j ≠ bx) (fun j h1 _ h3 => h3.elim id fun h => ⟨h1, by have := HS3.out; omega⟩))
  have F4 := Lib.hid (F3.out.fresh hf (fun j hj => hj.1))
  rw [lv_facts.2.2.1]
  clear hV hf V4 F3 D HS3
  go_wp2_with fail
  refine (queue_v V5.out (VFew.of lv_facts.2.2.2.2.2.2.2.2.2) 3 0).mono ?_
  rw [lv_facts.2.2.2.1]
  rintro _ w5 ⟨A5, rfl, hS, hf⟩
  have S5 := Lib.hid hS
  have D5 := Lib.hid (And.intro (hf.cell D4.out.1 id) (hf.cell D4.out.2 id))
  have V6 := Lib.hid (V5.out.new_ hf)
  have F5 := Lib.hid (F4.out.then_ hf)
  clear hS hf V5 F4 D4
  go_wp2_with fail
  refine (queue_v V6.out (VFew.of lv_facts.2.2.2.2.2.2.2.2.2) 3 1).mono ?_
  rw [lv_facts.2.2.2.2.1]
  rintro _ w6 ⟨A6, rfl, hS, hf⟩
  have S6 := Lib.hid hS
  have S5b := Lib.hid (S5.out.new_ hf)
  have D6 := Lib.hid (And.intro (hf.cell D5.out.1 id) (hf.cell D5.out.2 id))
  have V7 := Lib.hid (V6.out.new_ hf)
  have F6 := Lib.hid (F5.out.then_ hf)
  clear hS hf V6 F5 D5 S5
  go_wp2_with fail
  refine (places_v V7.out (VFew.of lv_facts.2.2.2.2.2.2.2.2.2) 2).mono ?_
  rw [lv_facts.2.2.2.2.2.1]
  rintro _ w7 ⟨A7, n7, rfl, hS, hf⟩
  have hn7 : n7 = 1 := by have := hS.len; rw [plc_len] at this; simp at this; omega
  subst hn7
  have S7 := Lib.hid hS
  have S6b := Lib.hid (S6.out.new_ hf)
  have S5c := Lib.hid (S5b.out.new_ hf)
  have D7 := Lib.hid (And.intro (hf.cell D6.out.1 id) (hf.cell D6.out.2 id))
  have V8 := Lib.hid (V7.out.new_ hf)
  have F7 := Lib.hid (F6.out.then_ hf)
  clear hS hf V7 F6 D6 S5b S6
  obtain ⟨g5, o5, rfl, -, c5⟩ := (Rd.ens S5c.out.rd).2 (by decide)
  obtain ⟨p5, -, -⟩ := c5 0 (by decide)
  replace p5 : w7.cell? ⟨g5, o5, none⟩ = some (.int .i64 1) := p5
  obtain ⟨g6, o6, rfl, -, c6⟩ := (Rd.ens S6b.out.rd).2 (by decide)
  obtain ⟨p6, -, -⟩ := c6 0 (by decide)
  replace p6 : w7.cell? ⟨g6, o6, none⟩ = some (.int .i64 2) := p6
  obtain ⟨g7, o7, rfl, -, -, c7, -⟩ := S7.out.form (by decide)
  have p70 : w7.cell? ⟨g7, o7, none⟩ = some (.int .i64 3) := c7 0 _ rfl
  have p71 : w7.cell? ⟨g7, o7 + 1, none⟩ = some (.int .i64 1) := c7 1 _ rfl
  have d0 := D7.out.1
  have d1 := D7.out.2
  have e33 := eql33
  have e37 := eql37
  have eg33 := eqg33
  have eg37 := eqg37
  clear c5 c6 c7
  have HQ := Lib.hid (fun V (hf : Frm w7 V fun _ => False) => by have := queue_v (V8.out.new_ hf) (VFew.of lv_facts.2.2.2.2.2.2.2.2.2) 2 0; rw [lv_facts.2.2.2.2.2.2.1] at this; exact this)
  go_wp2_with (go_at_call 25; refine (HQ.out _ (Frm.refl _ _)).mono ?_; rintro _ w8 ⟨A8, rfl, -, hf⟩; have F8 := Lib.hid (F7.out.then_ hf); have p70 := hf.cell p70 id; have p71 := hf.cell p71 id; clear hf)
  go_ret
  exact ⟨rfl, F8.out⟩
end Go.Proofs.Ytajcijocjbakbaa
