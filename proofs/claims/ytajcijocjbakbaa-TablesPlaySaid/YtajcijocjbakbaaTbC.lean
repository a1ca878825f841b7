import Derived.Test.YtajcijocjbakbaaTbB
import Derived.BigQuiet
namespace Go.Proofs.Ytajcijocjbakbaa
open Go.RowKit

abbrev plV (d i : Int) : Value := .agg #[.int .i64 d, .int .i64 i]
set_option maxRecDepth 100000 in
theorem at_no (B s b : Nat) (ts : List Tb) (d i : Int) (w : World) (h : TSet w B s b ts) (ht : tget ts d = none) :
    Calls Try.prog 28 #[.pointer (some ⟨s, 0, none⟩), plV d i] w fun e w' => e = .returned (.pointer none) ∧ Frm w w' fun _ => False := by
  have HT := Lib.hid h
  have HN := Lib.hid ht
  clear h ht
  go_enter Try.func28, Try.ntmps28
  go_wp2_with fail
  refine at_world' ?_
  intro W hW
  have hF : Frm w W fun _ => False := by rw [hW]; exact (Frm.refl _ _).alloc _
  have p0 : W.cell? ⟨w.heap.size, 0, none⟩ = some (.int .i64 d) := by rw [hW, World.cell?_alloc_new]; rfl
  have p1 : W.cell? ⟨w.heap.size, 1, none⟩ = some (.int .i64 i) := by rw [hW, World.cell?_alloc_new]; rfl
  have HAS := Lib.hid (fun F : Grown W => by have := has_any B s b ts d F.1 (HT.out.new_ (hF.then_ F.2)); rw [HN.out] at this; exact this)
  replace p0 := Grown.cell p0
  replace p1 := Grown.cell p1
  clear hW
  refine wp_region_grown W (Frm.refl _ _) (by kernel_rfl) (by kernel_rfl) ?_
  repeat (go_big_quiet_step ((go_at_call 10; refine Calls.grown_same (HAS.out _))))
  refine wpQuiet_nil ?_
  intro wq hq
  have F2 := Lib.hid (hF.then_ hq)
  clear hq p0 p1
  go_wp2_with fail
  go_ret
  exact ⟨rfl, F2.out⟩
set_option maxRecDepth 100000 in
theorem at_out (B s b : Nat) (ts : List Tb) (t : Tb) (d i : Int) (w : World) (h : TSet w B s b ts) (ht : tget ts d = some t) (hi : i < 0 ∨ (t.bs.length : Int) ≤ i) :
    Calls Try.prog 28 #[.pointer (some ⟨s, 0, none⟩), plV d i] w fun e w' => e = .returned (.pointer none) ∧ Frm w w' fun _ => False := by
  have HT := Lib.hid h
  have HN := Lib.hid ht
  have hsz : sz d = t.bs.length := by obtain ⟨hm, rfl⟩ := tget_some ht; exact (h.tb t hm).2.1.symm
  obtain ⟨n, hn⟩ : ∃ n, t.bs.length = n := ⟨_, rfl⟩
  rw [hn] at hi hsz
  have HSZ := Lib.hid hsz
  clear h ht hsz hn
  by_cases h0 : i < 0
  · have e0 : decide (i < 0) = true := by rw [decide_eq_true_eq]; exact h0
    clear hi
    go_enter Try.func28, Try.ntmps28
    go_wp2_with fail
    refine at_world' ?_
    intro W hW
    have hF : Frm w W fun _ => False := by rw [hW]; exact (Frm.refl _ _).alloc _
    have p0 : W.cell? ⟨w.heap.size, 0, none⟩ = some (.int .i64 d) := by rw [hW, World.cell?_alloc_new]; rfl
    have p1 : W.cell? ⟨w.heap.size, 1, none⟩ = some (.int .i64 i) := by rw [hW, World.cell?_alloc_new]; rfl
    have HAS := Lib.hid (fun F : Grown W => by have := has_any B s b ts d F.1 (HT.out.new_ (hF.then_ F.2)); rw [HN.out] at this; exact this)
    replace p0 := Grown.cell p0
    replace p1 := Grown.cell p1
    clear hW
    refine wp_region_grown W (Frm.refl _ _) (by kernel_rfl) (by kernel_rfl) ?_
    repeat (go_big_quiet_step ((first | (go_at_call 10; refine Calls.grown_same (HAS.out _)) | (go_at_call 13; refine Calls.grown_same (size_any _ _)))))
    refine wpQuiet_nil ?_
    intro wq hq
    have F2 := Lib.hid (hF.then_ hq)
    clear hq p0 p1
    go_wp2_with fail
    go_ret
    exact ⟨rfl, F2.out⟩
  · have e0 : decide (i < 0) = false := by rw [decide_eq_false_iff_not]; exact h0
    have hin : (n : Int) ≤ i := by omega
    have e1 : decide ((n : Int) ≤ i) = true := by rw [decide_eq_true_eq]; exact hin
    have h0' : 0 ≤ i := by omega
    have HS := Lib.hid (fun V => by have := size_any d V; rw [HSZ.out] at this; exact this)
    clear hi h0
    go_enter Try.func28, Try.ntmps28
    go_wp2_with fail
    refine at_world' ?_
    intro W hW
    have hF : Frm w W fun _ => False := by rw [hW]; exact (Frm.refl _ _).alloc _
    have p0 : W.cell? ⟨w.heap.size, 0, none⟩ = some (.int .i64 d) := by rw [hW, World.cell?_alloc_new]; rfl
    have p1 : W.cell? ⟨w.heap.size, 1, none⟩ = some (.int .i64 i) := by rw [hW, World.cell?_alloc_new]; rfl
    have HAS := Lib.hid (fun F : Grown W => by have := has_any B s b ts d F.1 (HT.out.new_ (hF.then_ F.2)); rw [HN.out] at this; exact this)
    replace p0 := Grown.cell p0
    replace p1 := Grown.cell p1
    clear hW
    refine wp_region_grown W (Frm.refl _ _) (by kernel_rfl) (by kernel_rfl) ?_
    repeat (go_big_quiet_step ((first | (go_at_call 10; refine Calls.grown_same (HAS.out _)) | (go_at_call 13; refine Calls.grown_same (HS.out _)))))
    refine wpQuiet_nil ?_
    intro wq hq
    have F2 := Lib.hid (hF.then_ hq)
    clear hq p0 p1
    go_wp2_with fail
    go_ret
    exact ⟨rfl, F2.out⟩
set_option maxRecDepth 100000 in
theorem at_in (B s b : Nat) (ts : List Tb) (t : Tb) (d : Int) (i : Nat) (w : World) (h : TSet w B s b ts) (ht : tget ts d = some t) (hi : i < t.bs.length) :
    Calls Try.prog 28 #[.pointer (some ⟨s, 0, none⟩), plV d i] w fun e w' => e = .returned (.pointer (some ⟨t.g, i * 3, none⟩)) ∧ Frm w w' fun _ => False := by
  have HT := Lib.hid h
  have HN := Lib.hid ht
  have hsz : sz d = t.bs.length := by obtain ⟨hm, rfl⟩ := tget_some ht; exact (h.tb t hm).2.1.symm
  have hL := fun (F : Grown w) => by have := (h.new_ F.2).lookup d; rw [ht] at this; exact this
  obtain ⟨g, hg⟩ : ∃ g, t.g = g := ⟨_, rfl⟩
  obtain ⟨n, hn⟩ : ∃ n, t.bs.length = n := ⟨_, rfl⟩
  have hL : ∀ F : Grown w, (Instr.lookup 59 (.map (some b)) (.int .i64 d) false).run Try.prog F.1 = .ok (.slice (some ⟨g, 0, none⟩) n n) F.1 := by rw [← hg, ← hn]; exact hL
  rw [hn] at hi hsz
  rw [hg]
  have HSZ := Lib.hid hsz
  have HL := Lib.hid hL
  have hc := h.ptr
  have i0 : (0 : Int) ≤ (i : Int) := by omega
  have i1 : (i : Int) < (n : Int) := by omega
  have e0 : decide ((i : Int) < 0) = false := by rw [decide_eq_false_iff_not]; omega
  have e1 : decide ((n : Int) ≤ (i : Int)) = false := by rw [decide_eq_false_iff_not]; omega
  have e2 : decide (n ≤ i) = false := by rw [decide_eq_false_iff_not]; omega
  have HS := Lib.hid (fun V => by have := size_any d V; rw [HSZ.out] at this; exact this)
  clear h ht hsz hn hg hi hL
  go_enter Try.func28, Try.ntmps28
  go_wp2_with fail
  refine at_world' ?_
  intro W hW
  have hF : Frm w W fun _ => False := by rw [hW]; exact (Frm.refl _ _).alloc _
  have p0 : W.cell? ⟨w.heap.size, 0, none⟩ = some (.int .i64 d) := by rw [hW, World.cell?_alloc_new]; rfl
  have p1 : W.cell? ⟨w.heap.size, 1, none⟩ = some (.int .i64 i) := by rw [hW, World.cell?_alloc_new]; rfl
  have hc2 := Grown.cell (hF.cell hc id)
  have HAS := Lib.hid (fun F : Grown W => by have := has_any B s b ts d F.1 (HT.out.new_ (hF.then_ F.2)); rw [HN.out] at this; exact this)
  have hL2 : ∀ F : Grown W, (Instr.lookup 59 (.map (some b)) (.int .i64 d) false).run Try.prog F.1 = .ok (.slice (some ⟨g, 0, none⟩) n n) F.1 := fun F => HL.out ⟨F.1, hF.then_ F.2⟩
  replace p0 := Grown.cell p0
  replace p1 := Grown.cell p1
  clear hW hc
  refine wp_region_grown W (Frm.refl _ _) (by kernel_rfl) (by kernel_rfl) ?_
  repeat (go_big_quiet_step ((first | (go_at_call 10; refine Calls.grown_same (HAS.out _)) | (go_at_call 13; refine Calls.grown_same (HS.out _)))))
  refine wpQuiet_nil ?_
  intro wq hq
  have HQ := Lib.hid hq
  clear hq
  go_wp2_with fail
  refine wp_region_grown W HQ.out (by kernel_rfl) (by kernel_rfl) ?_
  repeat (go_big_quiet_step (fail))
  refine wpQuiet_nil ?_
  intro wq2 hq2
  have F2 := Lib.hid (hF.then_ hq2)
  clear hq2 p0 p1
  go_wp2_with fail
  go_ret
  exact ⟨by simp, F2.out⟩
end Go.Proofs.Ytajcijocjbakbaa
