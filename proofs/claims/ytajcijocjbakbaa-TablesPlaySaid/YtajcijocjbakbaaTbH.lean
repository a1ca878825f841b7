import Derived.Test.YtajcijocjbakbaaTbG
namespace Go.Proofs.Ytajcijocjbakbaa
open Go.RowKit

set_option maxRecDepth 100000 in
theorem put_no (P0 : Option Addr) (d i : Int) (x : Value) (w : World) (h : ∀ V, (Frm w V fun _ => False) → Calls Try.prog 28 #[.pointer P0, plV d i] V fun e w' => e = .returned (.pointer none) ∧ Frm V w' fun _ => False) :
    Calls Try.prog 23 #[.pointer P0, plV d i, x] w fun e w' => e = .returned (.bool false) ∧ Frm w w' fun _ => False := by
  have HAT := Lib.hid h
  clear h
  go_enter Try.func23, Try.ntmps23
  go_wp2_with (go_at_call 28; refine (HAT.out _ ((Frm.refl _ _).alloc _)).mono ?_; rintro e w2 ⟨rfl, hf⟩; have F := Lib.hid (((Frm.refl w fun _ => False).alloc (.cells #[.int .i64 d, .int .i64 i] 37)).then_ hf); clear hf)
  go_ret
  exact ⟨rfl, F.out⟩
set_option maxRecDepth 100000 in
theorem putTimer_no (P0 : Option Addr) (d i a f : Int) (w : World) (h : ∀ V, (Frm w V fun _ => False) → Calls Try.prog 28 #[.pointer P0, plV d i] V fun e w' => e = .returned (.pointer none) ∧ Frm V w' fun _ => False) :
    Calls Try.prog 24 #[.pointer P0, plV d i, tmV a f] w fun e w' => e = .returned (.bool false) ∧ Frm w w' fun _ => False := by
  have HAT := Lib.hid h
  clear h
  go_enter Try.func24, Try.ntmps24
  go_wp2_with (go_at_call 28; refine (HAT.out _ (((Frm.refl _ _).alloc _).alloc _)).mono ?_; rintro e w2 ⟨rfl, hf⟩; have F := Lib.hid ((((Frm.refl w fun _ => False).alloc (.cells #[.int .i64 d, .int .i64 i] 37)).alloc (.cells #[.int .u64 a, .int .u64 f] 33)).then_ hf); clear hf)
  go_ret
  exact ⟨rfl, F.out⟩
theorem at_nil (d i : Int) (w : World) : Calls Try.prog 28 #[.pointer none, plV d i] w fun e w' => e = .returned (.pointer none) ∧ Frm w w' fun _ => False := by
  go_enter Try.func28, Try.ntmps28
  go_wp2_with fail
  refine at_world' ?_
  intro W hW
  have hF : Frm w W fun _ => False := by rw [hW]; exact (Frm.refl _ _).alloc _
  have p0 : W.cell? ⟨w.heap.size, 0, none⟩ = some (.int .i64 d) := by rw [hW, World.cell?_alloc_new]; rfl
  have p1 : W.cell? ⟨w.heap.size, 1, none⟩ = some (.int .i64 i) := by rw [hW, World.cell?_alloc_new]; rfl
  replace p0 := Grown.cell p0
  replace p1 := Grown.cell p1
  clear hW
  refine wp_region_grown W (Frm.refl _ _) (by kernel_rfl) (by kernel_rfl) ?_
  repeat (go_big_quiet_step ((go_at_call 10; refine Calls.grown_same (has_nil _ _))))
  refine wpQuiet_nil ?_
  intro wq hq
  have F2 := Lib.hid (hF.then_ hq)
  clear hq p0 p1
  go_wp2_with fail
  go_ret
  exact ⟨rfl, F2.out⟩
end Go.Proofs.Ytajcijocjbakbaa
