import Derived.Test.YtajcijocjbakbaaTbL
namespace Go.Proofs.Ytajcijocjbakbaa
open Go.RowKit

set_option maxRecDepth 100000 in
theorem grow_no1 (P0 : Option Addr) (d e : Int) (now : Int) (w : World) (h : Calls Try.prog 10 #[.pointer P0, .int .i64 d] w fun e w' => e = .returned (.bool false) ∧ w = w') :
    Calls Try.prog 11 #[.pointer P0, .int .i64 d, .int .i64 e, .int .u64 now] w fun e w' => e = .returned (.bool false) ∧ w = w' := by
  have H := Lib.hid h
  clear h
  go_enter Try.func11, Try.ntmps11
  go_wp2_with (go_at_call 10; refine H.out.mono ?_; rintro e w' ⟨rfl, rfl⟩)
  go_ret
  exact ⟨rfl, rfl⟩
set_option maxRecDepth 100000 in
theorem grow_no2 (P0 : Option Addr) (d e : Int) (now : Int) (w : World) (h : Calls Try.prog 10 #[.pointer P0, .int .i64 d] w fun e w' => e = .returned (.bool true) ∧ w = w') (h2 : Calls Try.prog 10 #[.pointer P0, .int .i64 e] w fun e w' => e = .returned (.bool true) ∧ w = w') :
    Calls Try.prog 11 #[.pointer P0, .int .i64 d, .int .i64 e, .int .u64 now] w fun e w' => e = .returned (.bool false) ∧ w = w' := by
  have H := Lib.hid h
  have H2 := Lib.hid h2
  clear h h2
  go_enter Try.func11, Try.ntmps11
  go_wp2_with fail
  refine H.out.mono ?_
  rintro _ _ ⟨rfl, rfl⟩
  go_wp2_with fail
  refine H2.out.mono ?_
  rintro _ _ ⟨rfl, rfl⟩
  go_wp2_with fail
  go_ret
  exact ⟨rfl, rfl⟩
set_option maxRecDepth 100000 in
theorem grow_no3 (P0 : Option Addr) (d e : Int) (now : Int) (w : World) (h : Calls Try.prog 10 #[.pointer P0, .int .i64 d] w fun e w' => e = .returned (.bool true) ∧ w = w') (h2 : Calls Try.prog 10 #[.pointer P0, .int .i64 e] w fun e w' => e = .returned (.bool false) ∧ w = w') (hle : e ≤ d) :
    Calls Try.prog 11 #[.pointer P0, .int .i64 d, .int .i64 e, .int .u64 now] w fun e w' => e = .returned (.bool false) ∧ w = w' := by
  have H := Lib.hid h
  have H2 := Lib.hid h2
  have e1 : decide (e ≤ d) = true := by rw [decide_eq_true_eq]; exact hle
  clear h h2
  go_enter Try.func11, Try.ntmps11
  go_wp2_with fail
  refine H.out.mono ?_
  rintro _ _ ⟨rfl, rfl⟩
  go_wp2_with fail
  refine H2.out.mono ?_
  rintro _ _ ⟨rfl, rfl⟩
  go_wp2_with fail
  go_ret
  exact ⟨rfl, rfl⟩
set_option maxRecDepth 100000 in
theorem grow_no4 (P0 : Option Addr) (d e : Int) (now : Int) (w : World) (h : Calls Try.prog 10 #[.pointer P0, .int .i64 d] w fun e w' => e = .returned (.bool true) ∧ w = w') (h2 : Calls Try.prog 10 #[.pointer P0, .int .i64 e] w fun e w' => e = .returned (.bool false) ∧ w = w') (hle : ¬ e ≤ d) (ht : tbl e = false) :
    Calls Try.prog 11 #[.pointer P0, .int .i64 d, .int .i64 e, .int .u64 now] w fun e w' => e = .returned (.bool false) ∧ w = w' := by
  have H := Lib.hid h
  have H2 := Lib.hid h2
  have e1 : decide (e ≤ d) = false := by rw [decide_eq_false_iff_not]; exact hle
  have H3 := Lib.hid (fun V => show Calls Try.prog 13 #[.int .i64 e] V fun e w' => e = .returned (.int .i64 0) ∧ V = w' by have := size_any e V; rw [show sz e = 0 by unfold sz; rw [ht]; rfl] at this; exact this)
  clear h h2 ht hle
  go_enter Try.func11, Try.ntmps11
  go_wp2_with fail
  refine H.out.mono ?_
  rintro _ _ ⟨rfl, rfl⟩
  go_wp2_with fail
  refine H2.out.mono ?_
  rintro _ _ ⟨rfl, rfl⟩
  go_wp2_with fail
  refine (H3.out _).mono ?_
  rintro _ _ ⟨rfl, rfl⟩
  go_wp2_with fail
  go_ret
  exact ⟨rfl, rfl⟩
end Go.Proofs.Ytajcijocjbakbaa
