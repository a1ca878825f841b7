import Derived.Test.YtmjpaaippilioaaDoorMkG
namespace Go.Proofs.YtmjpaaippilioaaDoor
open Go.RowKit

theorem eql23 (a b a' b' : Bool) (n n' : Int) (w : World) : (binOp .eql 23 (.agg #[.bool a, .bool b, .int .i64 n]) (.agg #[.bool a', .bool b', .int .i64 n'])).run Tryd.prog w = .ok (.bool (a == a' && (b == b' && n == n'))) w := by
  rw [run_eql_struct, run_equalIn_agg _ 9999 23 _ _ (by kernel_rfl) (by kernel_rfl)]
  simp [Program.fieldsOf, Tryd.underlying23, Op.eqFields, go_sem]
  go_simp
  by_cases h : a = a' <;> by_cases h2 : b = b' <;> by_cases h3 : n = n' <;> simp [h, h2, h3]
theorem neq23 (a b a' b' : Bool) (n n' : Int) (w : World) : (binOp .neq 23 (.agg #[.bool a, .bool b, .int .i64 n]) (.agg #[.bool a', .bool b', .int .i64 n'])).run Tryd.prog w = .ok (.bool (!(a == a' && (b == b' && n == n')))) w := by
  rw [run_neq_struct, run_equalIn_agg _ 9999 23 _ _ (by kernel_rfl) (by kernel_rfl)]
  simp [Program.fieldsOf, Tryd.underlying23, Op.eqFields, go_sem]
  go_simp
  by_cases h : a = a' <;> by_cases h2 : b = b' <;> by_cases h3 : n = n' <;> simp [h, h2, h3]
theorem eql27 (a b : Bool) (n : Int) (w : World) : (binOp .eql 27 (.agg #[.bool a, .bool b, .int .i64 n]) (.agg #[.bool a, .bool b, .int .i64 n])).run Tryd.prog w = .ok (.bool true) w := by
  rw [run_eql_struct, run_equalIn_agg _ 9999 27 _ _ (by kernel_rfl) (by kernel_rfl)]
  simp [Program.fieldsOf, Tryd.underlying27, Op.eqFields, go_sem]
theorem eqg23 (op : BinOp) (x y : Operand) (a b : Array Value) (w : World) : (eqGuard op 23 x y (.agg a) (.agg b)).run Tryd.prog w = .ok () w :=
  run_eqGuard_agg w op 23 x y _ _ (by kernel_rfl)
theorem eqg27 (op : BinOp) (x y : Operand) (a b : Array Value) (w : World) : (eqGuard op 27 x y (.agg a) (.agg b)).run Tryd.prog w = .ok () w :=
  run_eqGuard_agg w op 27 x y _ _ (by kernel_rfl)
set_option maxRecDepth 100000 in
theorem other_any (a b : Bool) (n : Int) (w : World) : Calls Tryd.prog 17 #[.agg #[.bool a, .bool b, .int .i64 n]] w fun e w' => e = .returned (.agg #[.bool a, .bool b, .int .i64 n]) ∧ Frm w w' fun _ => False := by
  go_enter Tryd.func17, Tryd.ntmps17
  go_wp2
  exact bodyPost_ret (v := .agg #[.bool a, .bool b, .int .i64 n]) (by simp [results, Tryd.results17, go_sem]) rfl ⟨rfl, ((Frm.refl _ _).alloc _).alloc _⟩
theorem dec3 : Lib.decDigits 3 = [51] := by rw [Lib.decDigits_one (by decide)]; rfl
theorem dec16 : Lib.decDigits 16 = [49, 54] := by rw [Lib.decDigits_two (by decide) (by decide)]; rfl
theorem lv1 : textB (sel (bt 3) mutexN 2 ++ restL 3 2) = ⟨#[108, 111, 99, 107, 101, 100, 43, 112, 97, 114, 107, 101, 100]⟩ := by decide +kernel
theorem lv2 : textB (sel (bt 57) rwN 4 ++ readL 57) = ⟨#[112, 97, 114, 107, 101, 100, 43, 119, 114, 105, 116, 101, 114, 43, 114, 51]⟩ := by
  rw [show readL 57 = [⟨(114 :: [51]).toArray⟩] from by unfold readL; rw [if_neg (by decide), dec3]]
  decide +kernel
theorem lv3 : textB (sel (bt 20) onceN 4 ++ restL 20 4) = ⟨#[108, 111, 99, 107, 101, 100, 43, 49, 54]⟩ := by
  rw [show restL 20 4 = [⟨[49, 54].toArray⟩] from by unfold restL; rw [if_neg (by decide), show 20 / 2 ^ 4 * 2 ^ 4 = 16 from rfl, dec16]]
  decide +kernel
theorem lv4 : textB (sel (bt 0) mutexN 2 ++ restL 0 2) = ⟨#[48]⟩ := by decide +kernel
theorem lvput (w : World) : Calls Tryd.prog 15 #[.agg #[.bool true, .bool false, .int .i64 2]] w fun e w' => e = .returned (.int .u64 13) ∧ Frm w w' fun _ => False := put_any true false 2 w
theorem lvas (w : World) : Calls Tryd.prog 18 #[.int .u64 2] w fun e w' => e = .returned (.agg #[.bool false, .bool true, .int .i64 (-1)]) ∧ Frm w w' fun _ => False := as_any 2 (by omega) w
theorem lvm3 (w : World) (hm : Mk w) : Calls Tryd.prog 21 #[.int .u64 3] w fun e w' => e = .returned (.string ⟨#[108, 111, 99, 107, 101, 100, 43, 112, 97, 114, 107, 101, 100]⟩) ∧ Frm w w' fun _ => False := by
  have := mutex_any 3 w (by omega) hm
  rw [lv1] at this
  exact this
theorem lvr57 (w : World) (hm : Mk w) : Calls Tryd.prog 23 #[.int .u64 57] w fun e w' => e = .returned (.string ⟨#[112, 97, 114, 107, 101, 100, 43, 119, 114, 105, 116, 101, 114, 43, 114, 51]⟩) ∧ Frm w w' fun _ => False := by
  have := rw_any 57 w (by omega) hm
  rw [lv2] at this
  exact this
theorem lvo20 (w : World) (hm : Mk w) : Calls Tryd.prog 25 #[.int .u64 20] w fun e w' => e = .returned (.string ⟨#[108, 111, 99, 107, 101, 100, 43, 49, 54]⟩) ∧ Frm w w' fun _ => False := by
  have := once_any 20 w (by omega) hm
  rw [lv3] at this
  exact this
theorem lvm0 (w : World) (hm : Mk w) : Calls Tryd.prog 21 #[.int .u64 0] w fun e w' => e = .returned (.string ⟨#[48]⟩) ∧ Frm w w' fun _ => False := by
  have := mutex_any 0 w (by omega) hm
  rw [lv4] at this
  exact this
set_option maxRecDepth 100000 in
set_option maxHeartbeats 1000000 in
theorem lives_any (w : World) (hm : Mk w) : Calls Tryd.prog 20 #[] w fun e w' => e = .returned (.bool true) ∧ Frm w w' fun _ => False := by
  have HM := Lib.hid hm
  have F := Lib.hid (Frm.refl w fun _ => False)
  have e1 := eql23
  have e2 := eqg23
  clear hm
  go_enter Tryd.func20, Tryd.ntmps20
  go_wp2_with (first
    | (go_at_call 15; refine (lvput _).mono ?_; rintro e w1 ⟨rfl, hf⟩; replace F := Lib.hid (F.out.then_ hf); clear hf)
    | (go_at_call 18; refine (lvas _).mono ?_; rintro e w2 ⟨rfl, hf⟩; replace F := Lib.hid (F.out.then_ hf); clear hf)
    | (go_at_call 21; first
      | ((with_reducible refine (lvm3 _ (HM.out.new_ F.out)).mono ?_); rintro e w3 ⟨rfl, hf⟩; replace F := Lib.hid (F.out.then_ hf); clear hf)
      | ((with_reducible refine (lvm0 _ (HM.out.new_ F.out)).mono ?_); rintro e w3 ⟨rfl, hf⟩; replace F := Lib.hid (F.out.then_ hf); clear hf))
    | (go_at_call 23; refine (lvr57 _ (HM.out.new_ F.out)).mono ?_; rintro e w4 ⟨rfl, hf⟩; replace F := Lib.hid (F.out.then_ hf); clear hf)
    | (go_at_call 25; refine (lvo20 _ (HM.out.new_ F.out)).mono ?_; rintro e w5 ⟨rfl, hf⟩; replace F := Lib.hid (F.out.then_ hf); clear hf))
  go_ret
  exact ⟨rfl, F.out⟩
end Go.Proofs.YtmjpaaippilioaaDoor
