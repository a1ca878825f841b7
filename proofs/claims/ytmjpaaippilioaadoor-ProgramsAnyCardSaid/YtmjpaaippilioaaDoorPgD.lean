import Derived.Test.YtmjpaaippilioaaDoorPgC
namespace Go.Proofs.YtmjpaaippilioaaDoor
open Go.RowKit

/-! ### may an operation be -/
/-- Are operations alike? -/
def opEq (x y : OpR) : Bool := x.k == y.k && (x.a == y.a && (x.o == y.o && (x.t == y.t && (x.fl == y.fl && (x.fa == y.fa && x.g == y.g)))))
theorem opEq_iff (x y : OpR) : opEq x y = true ↔ x = y := by
  obtain ⟨a1, a2, a3, a4, a5, a6, a7⟩ := x
  obtain ⟨b1, b2, b3, b4, b5, b6, b7⟩ := y
  simp [opEq]
set_option maxRecDepth 100000 in
theorem eq34 (x y : OpR) (w : World) : (Op.equal 50 x.V y.V).run Tryd.prog w = .ok (opEq x y) w := by
  obtain ⟨a1, a2, a3, a4, a5, a6, a7⟩ := x
  obtain ⟨b1, b2, b3, b4, b5, b6, b7⟩ := y
  unfold Op.equal
  rw [show Op.maxDepth = 9999 + 1 from rfl, run_equalIn_agg _ 9999 50 _ _ (by kernel_rfl) (by kernel_rfl)]
  simp [Program.fieldsOf, Tryd.underlying50, Op.eqFields, go_sem]
  go_simp
  unfold opEq
  by_cases h1 : a1 = b1 <;> simp [h1]
  by_cases h2 : a2 = b2 <;> simp [h2]
  by_cases h3 : a3 = b3 <;> simp [h3]
  by_cases h4 : a4 = b4 <;> simp [h4]
  by_cases h5 : a5 = b5 <;> simp [h5]
  by_cases h6 : a6 = b6 <;> simp [h6]
  by_cases h7 : a7 = b7 <;> simp [h7]
theorem eql34 (x y : OpR) (w : World) : (binOp .eql 50 x.V y.V).run Tryd.prog w = .ok (.bool (opEq x y)) w := by
  have e := eq34 x y w
  rw [run_eql_struct]
  have e : (Op.equalIn 10000 50 x.V y.V).run Tryd.prog w = .ok (opEq x y) w := e
  rw [e]
  rfl
theorem eqg34 (op : BinOp) (a b : Operand) (x y : OpR) (w : World) : (eqGuard op 50 a b x.V y.V).run Tryd.prog w = .ok () w :=
  run_eqGuard_agg w op 50 a b _ _ (by kernel_rfl)
def mayO (U : Nat → Use) (x : OpR) : Bool :=
  decide (x.k < 26) && ((decide (0 ≤ x.a) && decide (x.a < 8)) && ((decide (0 ≤ x.o) && decide (x.o < 8)) && ((decide (-1 ≤ x.t) && decide (x.t < 255)) && ((decide (0 ≤ x.g) && decide (x.g < 256)) && opEq (plainO U x) x))))
set_option maxRecDepth 100000 in
set_option maxHeartbeats 0 in
theorem mayP_any (U : Nat → Use) (x : OpR) (k : Nat) (hk : x.k = k) (hk8 : k < 256) (w : World) (h : Tabs w U) (h0 : 4 < w.heap.size) :
    Calls Tryd.prog 46 #[x.V] w fun e w' => e = .returned (.bool (mayO U x)) ∧ Frm w w' fun _ => False := by
  obtain ⟨c0, hc0⟩ : ∃ c, decide (x.k < 26) = c := ⟨_, rfl⟩
  obtain ⟨b1, hb1⟩ : ∃ c, (decide (0 ≤ x.a) && decide (x.a < 8)) = c := ⟨_, rfl⟩
  obtain ⟨b2, hb2⟩ : ∃ c, (decide (0 ≤ x.o) && decide (x.o < 8)) = c := ⟨_, rfl⟩
  obtain ⟨b3, hb3⟩ : ∃ c, (decide (-1 ≤ x.t) && decide (x.t < 255)) = c := ⟨_, rfl⟩
  obtain ⟨b4, hb4⟩ : ∃ c, (decide (0 ≤ x.g) && decide (x.g < 256)) = c := ⟨_, rfl⟩
  obtain ⟨b5, hb5⟩ : ∃ c, opEq (plainO U x) x = c := ⟨_, rfl⟩
  have hm : mayO U x = (c0 && (b1 && (b2 && (b3 && (b4 && b5))))) := by unfold mayO; rw [hc0, hb1, hb2, hb3, hb4, hb5]
  rw [hm]
  clear hm
  have W1 : ∀ w : World, Calls Tryd.prog 73 #[.int .i64 x.a, .int .i64 0, .int .i64 8] w fun e w' => e = .returned (.bool b1) ∧ w = w' := fun w => by rw [← hb1]; exact within_any x.a 0 8 w
  have W2 : ∀ w : World, Calls Tryd.prog 73 #[.int .i64 x.o, .int .i64 0, .int .i64 8] w fun e w' => e = .returned (.bool b2) ∧ w = w' := fun w => by rw [← hb2]; exact within_any x.o 0 8 w
  have W3 : ∀ w : World, Calls Tryd.prog 73 #[.int .i64 x.t, .int .i64 (-1), .int .i64 255] w fun e w' => e = .returned (.bool b3) ∧ w = w' := fun w => by rw [← hb3]; exact within_any x.t (-1) 255 w
  have W4 : ∀ w : World, Calls Tryd.prog 73 #[.int .i64 x.g, .int .i64 0, .int .i64 256] w fun e w' => e = .returned (.bool b4) ∧ w = w' := fun w => by rw [← hb4]; exact within_any x.g 0 256 w
  have hsz := h0
  have W5 : c0 = true ∧ b4 = true → ∀ F : { x : World // Frm w x fun _ => False }, Calls Tryd.prog 74 #[x.V] F.1 fun e w' => e = .returned (plainO U x).V ∧ Frm F.1 w' fun _ => False := fun hh F => by
    have k1 : x.k < 26 := of_decide_eq_true (hc0.trans hh.1)
    have g1 : 0 ≤ x.g := by
      have := hb4.trans hh.2
      simp at this
      exact this.1
    exact plain_any U x k hk (by omega) g1 F.1 (h.new_ F.2) (by have := F.2.size; omega)
  obtain ⟨y, hy⟩ : ∃ y, plainO U x = y := ⟨_, rfl⟩
  rw [hy] at W5 hb5
  have e5 := fun w => eql34 y x w
  rw [hb5] at e5
  have e6 := eqg34
  obtain ⟨xk, xa, xo, xt, xfl, xfa, xg⟩ := x
  have hk : xk = k := hk
  subst hk
  have e1 : decide ((k : Int) < 26) = c0 := hc0
  have k0 : (0 : Int) ≤ (k : Int) := by omega
  have k1 : (k : Int) < 256 := by omega
  replace W1 : ∀ w : World, Calls Tryd.prog 73 #[.int .i64 xa, .int .i64 0, .int .i64 8] w fun e w' => e = .returned (.bool b1) ∧ w = w' := W1
  replace W2 : ∀ w : World, Calls Tryd.prog 73 #[.int .i64 xo, .int .i64 0, .int .i64 8] w fun e w' => e = .returned (.bool b2) ∧ w = w' := W2
  replace W3 : ∀ w : World, Calls Tryd.prog 73 #[.int .i64 xt, .int .i64 (-1), .int .i64 255] w fun e w' => e = .returned (.bool b3) ∧ w = w' := W3
  replace W4 : ∀ w : World, Calls Tryd.prog 73 #[.int .i64 xg, .int .i64 0, .int .i64 256] w fun e w' => e = .returned (.bool b4) ∧ w = w' := W4
  clear hb1 hb2 hb3 hb4 hb5 hy hc0
  go_enter Tryd.func46, Tryd.ntmps46
  go_wp2_with fail
  refine at_world' ?_
  intro W hW
  have hF : Frm w W fun _ => False := by rw [hW]; exact (Frm.refl _ _).alloc _
  have p0 : W.cell? ⟨w.heap.size, 0, none⟩ = some (.int .u8 k) := by subst hW; go_simp
  have p1 : W.cell? ⟨w.heap.size, 1, none⟩ = some (.int .i64 xa) := by subst hW; go_simp
  have p2 : W.cell? ⟨w.heap.size, 2, none⟩ = some (.int .i64 xo) := by subst hW; go_simp
  have p3 : W.cell? ⟨w.heap.size, 3, none⟩ = some (.int .i64 xt) := by subst hW; go_simp
  have p4 : W.cell? ⟨w.heap.size, 4, none⟩ = some (.bool xfl) := by subst hW; go_simp
  have p5 : W.cell? ⟨w.heap.size, 5, none⟩ = some (.bool xfa) := by subst hW; go_simp
  have p6 : W.cell? ⟨w.heap.size, 6, none⟩ = some (.int .i64 xg) := by subst hW; go_simp
  replace p0 := Grown.cell p0
  replace p1 := Grown.cell p1
  replace p2 := Grown.cell p2
  replace p3 := Grown.cell p3
  replace p4 := Grown.cell p4
  replace p5 := Grown.cell p5
  replace p6 := Grown.cell p6
  have W6 : c0 = true ∧ b4 = true → ∀ F : Grown W, Calls Tryd.prog 74 #[OpR.V ⟨k, xa, xo, xt, xfl, xfa, xg⟩] F.1 fun e w' => e = .returned y.V ∧ Frm F.1 w' fun _ => False := fun hh F => W5 hh ⟨F.1, hF.then_ F.2⟩
  clear W5 hW h hsz
  have HF := Lib.hid hF
  clear hF
  have HW := Lib.hid W6
  clear W6

  cases c0 with
  | false =>
    refine wp_region_grown W (Frm.refl _ _) (by kernel_rfl) (by kernel_rfl) ?_
    repeat (go_big_quiet_step (first
      | (go_at_call 73; with_reducible refine Calls.grown_same (W1 _))
      | (go_at_call 73; with_reducible refine Calls.grown_same (W2 _))
      | (go_at_call 73; with_reducible refine Calls.grown_same (W3 _))
      | (go_at_call 73; with_reducible refine Calls.grown_same (W4 _))
      | (go_at_call 74; refine Calls.grown_of (HW.out ⟨rfl, rfl⟩ _))))
    refine wpQuiet_nil ?_
    intro wq hq
    go_wp2_with fail
    go_ret
    exact ⟨rfl, HF.out.then_ hq⟩
  | true =>
    cases b1 with
    | false =>
      refine wp_region_grown W (Frm.refl _ _) (by kernel_rfl) (by kernel_rfl) ?_
      repeat (go_big_quiet_step (first
        | (go_at_call 73; with_reducible refine Calls.grown_same (W1 _))
        | (go_at_call 73; with_reducible refine Calls.grown_same (W2 _))
        | (go_at_call 73; with_reducible refine Calls.grown_same (W3 _))
        | (go_at_call 73; with_reducible refine Calls.grown_same (W4 _))
        | (go_at_call 74; refine Calls.grown_of (HW.out ⟨rfl, rfl⟩ _))))
      refine wpQuiet_nil ?_
      intro wq hq
      go_wp2_with fail
      go_ret
      exact ⟨rfl, HF.out.then_ hq⟩
    | true =>
      cases b2 with
      | false =>
        refine wp_region_grown W (Frm.refl _ _) (by kernel_rfl) (by kernel_rfl) ?_
        repeat (go_big_quiet_step (first
          | (go_at_call 73; with_reducible refine Calls.grown_same (W1 _))
          | (go_at_call 73; with_reducible refine Calls.grown_same (W2 _))
          | (go_at_call 73; with_reducible refine Calls.grown_same (W3 _))
          | (go_at_call 73; with_reducible refine Calls.grown_same (W4 _))
          | (go_at_call 74; refine Calls.grown_of (HW.out ⟨rfl, rfl⟩ _))))
        refine wpQuiet_nil ?_
        intro wq hq
        go_wp2_with fail
        go_ret
        exact ⟨rfl, HF.out.then_ hq⟩
      | true =>
        cases b3 with
        | false =>
          refine wp_region_grown W (Frm.refl _ _) (by kernel_rfl) (by kernel_rfl) ?_
          repeat (go_big_quiet_step (first
            | (go_at_call 73; with_reducible refine Calls.grown_same (W1 _))
            | (go_at_call 73; with_reducible refine Calls.grown_same (W2 _))
            | (go_at_call 73; with_reducible refine Calls.grown_same (W3 _))
            | (go_at_call 73; with_reducible refine Calls.grown_same (W4 _))
            | (go_at_call 74; refine Calls.grown_of (HW.out ⟨rfl, rfl⟩ _))))
          refine wpQuiet_nil ?_
          intro wq hq
          go_wp2_with fail
          go_ret
          exact ⟨rfl, HF.out.then_ hq⟩
        | true =>
          cases b4 with
          | false =>
            refine wp_region_grown W (Frm.refl _ _) (by kernel_rfl) (by kernel_rfl) ?_
            repeat (go_big_quiet_step (first
              | (go_at_call 73; with_reducible refine Calls.grown_same (W1 _))
              | (go_at_call 73; with_reducible refine Calls.grown_same (W2 _))
              | (go_at_call 73; with_reducible refine Calls.grown_same (W3 _))
              | (go_at_call 73; with_reducible refine Calls.grown_same (W4 _))
              | (go_at_call 74; refine Calls.grown_of (HW.out ⟨rfl, rfl⟩ _))))
            refine wpQuiet_nil ?_
            intro wq hq
            go_wp2_with fail
            go_ret
            exact ⟨rfl, HF.out.then_ hq⟩
          | true =>
            cases b5 with
            | false =>
              refine wp_region_grown W (Frm.refl _ _) (by kernel_rfl) (by kernel_rfl) ?_
              repeat (go_big_quiet_step (first
                | (go_at_call 73; with_reducible refine Calls.grown_same (W1 _))
                | (go_at_call 73; with_reducible refine Calls.grown_same (W2 _))
                | (go_at_call 73; with_reducible refine Calls.grown_same (W3 _))
                | (go_at_call 73; with_reducible refine Calls.grown_same (W4 _))
                | (go_at_call 74; refine Calls.grown_of (HW.out ⟨rfl, rfl⟩ _))))
              refine wpQuiet_nil ?_
              intro wq hq
              go_wp2_with fail
              go_ret
              exact ⟨rfl, HF.out.then_ hq⟩
            | true =>
              refine wp_region_grown W (Frm.refl _ _) (by kernel_rfl) (by kernel_rfl) ?_
              repeat (go_big_quiet_step (first
                | (go_at_call 73; with_reducible refine Calls.grown_same (W1 _))
                | (go_at_call 73; with_reducible refine Calls.grown_same (W2 _))
                | (go_at_call 73; with_reducible refine Calls.grown_same (W3 _))
                | (go_at_call 73; with_reducible refine Calls.grown_same (W4 _))
                | (go_at_call 74; refine Calls.grown_of (HW.out ⟨rfl, rfl⟩ _))))
              refine wpQuiet_nil ?_
              intro wq hq
              go_wp2_with fail
              go_ret
              exact ⟨rfl, HF.out.then_ hq⟩
end Go.Proofs.YtmjpaaippilioaaDoor
