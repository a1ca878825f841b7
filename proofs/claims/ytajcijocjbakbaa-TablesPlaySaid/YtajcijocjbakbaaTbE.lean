import Derived.Test.YtajcijocjbakbaaTbD
namespace Go.Proofs.Ytajcijocjbakbaa
open Go.RowKit

abbrev tmV (a f : Int) : Value := .agg #[.int .u64 a, .int .u64 f]
set_option maxRecDepth 100000 in
theorem timer_no (P0 : Option Addr) (d i : Int) (w : World) (h : ∀ V, (Frm w V fun _ => False) → Calls Try.prog 28 #[.pointer P0, plV d i] V fun e w' => e = .returned (.pointer none) ∧ Frm V w' fun _ => False) :
    Calls Try.prog 12 #[.pointer P0, plV d i] w fun e w' => e = .returned (tmV 0 0) ∧ Frm w w' fun _ => False := by
  have HAT := Lib.hid h
  clear h
  go_enter Try.func12, Try.ntmps12
  go_wp2_with fail
  refine (HAT.out _ (((Frm.refl _ _).alloc _).alloc _)).mono ?_
  rintro e w2 ⟨rfl, hf⟩
  have q0 : ((w.alloc (.cells #[.int .i64 d, .int .i64 i] 37)).alloc (.cells #[.int .u64 0, .int .u64 0] 33)).cell? ⟨w.heap.size + 1, 0, none⟩ = some (.int .u64 0) := by simp
  have q1 : ((w.alloc (.cells #[.int .i64 d, .int .i64 i] 37)).alloc (.cells #[.int .u64 0, .int .u64 0] 33)).cell? ⟨w.heap.size + 1, 1, none⟩ = some (.int .u64 0) := by simp
  have r0 := hf.cell q0 id
  have r1 := hf.cell q1 id
  have z0 : w2.frozen? ⟨w.heap.size + 1, 0, none⟩ = false := (hf.frozen (p := ⟨w.heap.size + 1, 0, none⟩) (World.block_lt_of_cell? _ _ q0) id).trans (by simp)
  have z1 : w2.frozen? ⟨w.heap.size + 1, 1, none⟩ = false := (hf.frozen (p := ⟨w.heap.size + 1, 1, none⟩) (World.block_lt_of_cell? _ _ q1) id).trans (by simp)
  have F := Lib.hid ((((Frm.refl w fun _ => False).alloc (.cells #[.int .i64 d, .int .i64 i] 37)).alloc (.cells #[.int .u64 0, .int .u64 0] 33)).then_ hf)
  clear hf q0 q1
  go_wp2_with fail
  refine bodyPost_ret (v := tmV 0 0) (by simp [results, Try.results12, go_sem, tmV, r0, r1]) rfl ⟨rfl, ?_⟩
  exact (F.out.setCell (p := ⟨w.heap.size + 1, 0, none⟩) (fun h => by have h : w.heap.size + 1 < w.heap.size := h; omega) _).setCell (p := ⟨w.heap.size + 1, 1, none⟩) (fun h => by have h : w.heap.size + 1 < w.heap.size := h; omega) _
set_option maxRecDepth 100000 in
theorem timer_in (B s b : Nat) (ts : List Tb) (t : Tb) (k : Bk) (d : Int) (i : Nat) (w : World) (h : TSet w B s b ts) (ht : tget ts d = some t) (hk : t.bs[i]? = some k) :
    Calls Try.prog 12 #[.pointer (some ⟨s, 0, none⟩), plV d i] w fun e w' => e = .returned (tmV k.at_ k.fired) ∧ Frm w w' fun _ => False := by
  have hi : i < t.bs.length := (List.getElem?_eq_some_iff.1 hk).1
  obtain ⟨hm, _⟩ := tget_some ht
  obtain ⟨c0, c1, -, -⟩ := h.bk hm hk
  have HAT := Lib.hid (fun V (hf : Frm w V fun _ => False) => at_in B s b ts t d i V (h.new_ hf) ht hi)
  obtain ⟨ka, hka⟩ : ∃ x, k.at_ = x := ⟨_, rfl⟩
  obtain ⟨kf, hkf⟩ : ∃ x, k.fired = x := ⟨_, rfl⟩
  obtain ⟨g, hg⟩ : ∃ g, t.g = g := ⟨_, rfl⟩
  rw [hg] at c0 c1 HAT
  rw [hka] at c0
  rw [hkf] at c1
  rw [hka, hkf]
  have HC := Lib.hid (And.intro c0 c1)
  have hlt := World.block_lt_of_cell? w _ c0
  simp only at hlt
  have hne : g ≠ w.heap.size + 1 := by omega
  clear h ht hk hi hm c0 c1 hg hka hkf
  go_enter Try.func12, Try.ntmps12
  go_wp2_with fail
  refine (HAT.out _ (((Frm.refl _ _).alloc _).alloc _)).mono ?_
  rintro e w2 ⟨rfl, hf⟩
  have q0 : ((w.alloc (.cells #[.int .i64 d, .int .i64 i] 37)).alloc (.cells #[.int .u64 0, .int .u64 0] 33)).cell? ⟨w.heap.size + 1, 0, none⟩ = some (.int .u64 0) := by simp
  have q1 : ((w.alloc (.cells #[.int .i64 d, .int .i64 i] 37)).alloc (.cells #[.int .u64 0, .int .u64 0] 33)).cell? ⟨w.heap.size + 1, 1, none⟩ = some (.int .u64 0) := by simp
  have r0 := hf.cell q0 id
  have r1 := hf.cell q1 id
  have z0 : w2.frozen? ⟨w.heap.size + 1, 0, none⟩ = false := (hf.frozen (p := ⟨w.heap.size + 1, 0, none⟩) (World.block_lt_of_cell? _ _ q0) id).trans (by simp)
  have z1 : w2.frozen? ⟨w.heap.size + 1, 1, none⟩ = false := (hf.frozen (p := ⟨w.heap.size + 1, 1, none⟩) (World.block_lt_of_cell? _ _ q1) id).trans (by simp)
  have F := Lib.hid ((((Frm.refl w fun _ => False).alloc (.cells #[.int .i64 d, .int .i64 i] 37)).alloc (.cells #[.int .u64 0, .int .u64 0] 33)).then_ hf)
  have c0 := F.out.cell HC.out.1 id
  have c1 := F.out.cell HC.out.2 id
  clear hf q0 q1
  go_wp2_with fail
  refine bodyPost_ret (v := tmV ka kf) (by simp [results, Try.results12, go_sem, tmV, r0, r1]) rfl ⟨rfl, ?_⟩
  exact (F.out.setCell (p := ⟨w.heap.size + 1, 0, none⟩) (fun h => by have h : w.heap.size + 1 < w.heap.size := h; omega) _).setCell (p := ⟨w.heap.size + 1, 1, none⟩) (fun h => by have h : w.heap.size + 1 < w.heap.size := h; omega) _
end Go.Proofs.Ytajcijocjbakbaa
