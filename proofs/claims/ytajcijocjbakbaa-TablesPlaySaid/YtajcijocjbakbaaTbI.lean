import Derived.Test.YtajcijocjbakbaaTbH
namespace Go.Proofs.Ytajcijocjbakbaa
open Go.RowKit

theorem lookup_nil (d : Int) (w : World) : (Instr.lookup 59 (.map none) (.int .i64 d) false).run Try.prog w = .ok (.slice none 0 0) w := by
  unfold Instr.lookup
  simp only [Sem.run_bind, run_underlying Try.underlying59, Result.andThen_ok, Sem.run_pure]
  rw [(intL (P := Try.prog) (K := 3) Try.underlying3).check]
  simp only [Result.andThen_ok]
  rcases (intL (P := Try.prog) (K := 3) Try.underlying3).find w d [] [] rfl with ⟨h, _⟩ | ⟨j, e, _, h, _⟩
  · have hz : (zeroValue 70).run Try.prog w = .ok (.slice none 0 0) w := by kernel_rfl
    have h : (Instr.findKey 3 (Value.int .i64 d) (#[] : Array MapEntry).toList).run Try.prog w = .ok none w := h
    simp only [h, Result.andThen_ok, Sem.run_bind, hz, Sem.run_pure]
    rfl
  · simp at h
set_option maxRecDepth 100000 in
theorem has_zero (s : Nat) (d : Int) (w : World) (h : w.cell? ⟨s, 0, none⟩ = some (.map none)) : Calls Try.prog 10 #[.pointer (some ⟨s, 0, none⟩), .int .i64 d] w fun e w' => e = .returned (.bool false) ∧ w = w' := by
  have hl := lookup_nil d w
  go_enter Try.func10, Try.ntmps10
  go_wp2
  go_ret
  exact ⟨rfl, rfl⟩
set_option maxRecDepth 100000 in
theorem at_zero (s : Nat) (d i : Int) (w : World) (h : w.cell? ⟨s, 0, none⟩ = some (.map none)) : Calls Try.prog 28 #[.pointer (some ⟨s, 0, none⟩), plV d i] w fun e w' => e = .returned (.pointer none) ∧ Frm w w' fun _ => False := by
  have H := Lib.hid h
  clear h
  go_enter Try.func28, Try.ntmps28
  go_wp2_with fail
  refine at_world' ?_
  intro W hW
  have hF : Frm w W fun _ => False := by rw [hW]; exact (Frm.refl _ _).alloc _
  have p0 : W.cell? ⟨w.heap.size, 0, none⟩ = some (.int .i64 d) := by rw [hW, World.cell?_alloc_new]; rfl
  have p1 : W.cell? ⟨w.heap.size, 1, none⟩ = some (.int .i64 i) := by rw [hW, World.cell?_alloc_new]; rfl
  have HAS := Lib.hid (fun F : Grown W => has_zero s d F.1 ((hF.then_ F.2).cell H.out id))
  replace p0 := Grown.cell p0
  replace p1 := Grown.cell p1
  clear hW
  refine wp_region_grown W (Frm.refl _ _) (by kernel_rfl) (by kernel_rfl) ?_
  repeat (go_big_quiet_step ((go_at_call 10; refine Calls.grown_same (HAS.out _))))
  refine wpQuiet_nil ?_
  intro wq hq
  have F2 := Lib.hid (hF.then_ hq)
  clear hq p0 p1
  go_wp2_with fail
  go_ret
  exact ⟨rfl, F2.out⟩
end Go.Proofs.Ytajcijocjbakbaa
