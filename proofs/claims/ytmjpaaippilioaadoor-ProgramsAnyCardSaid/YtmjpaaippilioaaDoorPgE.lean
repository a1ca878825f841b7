import Derived.Test.YtmjpaaippilioaaDoorPgD
import Derived.Laws.Unary
namespace Go.Proofs.YtmjpaaippilioaaDoor
open Go.RowKit

/-! ### the addresses of an operation -/
/-- The sorts' addresses are small. -/
structure TabsOk (U : Nat → Use) : Prop where
  first : ∀ k, k < 26 → 0 ≤ (U k).first ∧ (U k).first ≤ 65536
  other : ∀ k, k < 26 → 0 ≤ (U k).other ∧ (U k).other ≤ 65536
def addrO (U : Nat → Use) (x : OpR) : Int × Int :=
  if mayO U x then ((U x.k.toNat).first + 4 * x.a, if (U x.k.toNat).other != 0 then (U x.k.toNat).other + 4 * x.o else 0) else (0, 0)
theorem mayO_bounds {U : Nat → Use} {x : OpR} (h : mayO U x = true) : x.k < 26 ∧ 0 ≤ x.a ∧ x.a < 8 ∧ 0 ≤ x.o ∧ x.o < 8 := by
  unfold mayO at h
  simp only [Bool.and_eq_true, decide_eq_true_eq] at h
  exact ⟨h.1, h.2.1.1, h.2.1.2, h.2.2.1.1, h.2.2.1.2⟩
set_option maxRecDepth 100000 in
theorem addr_no (U : Nat → Use) (x : OpR) (k : Nat) (hk : x.k = k) (hk8 : k < 256) (hm : mayO U x = false) (w : World) (h : Tabs w U) (h0 : 4 < w.heap.size) :
    Calls Tryd.prog 44 #[x.V] w fun e w' => e = .returned (.tuple #[.int .u32 0, .int .u32 0]) ∧ Frm w w' fun _ => False := by
  have hM : ∀ F : { v : World // Frm w v fun _ => False }, Calls Tryd.prog 46 #[x.V] F.1 fun e w' => e = .returned (.bool false) ∧ Frm F.1 w' fun _ => False := fun F => by
    have := mayP_any U x k hk hk8 F.1 (h.new_ F.2) (by have := F.2.size; omega)
    rw [hm] at this
    exact this
  clear h h0 hm
  obtain ⟨xk, xa, xo, xt, xfl, xfa, xg⟩ := x
  have HM := Lib.hid hM
  clear hM
  go_enter Tryd.func44, Tryd.ntmps44
  go_wp2_with (go_at_call 46; refine (HM.out ⟨_, (Frm.refl _ _).alloc _⟩).mono ?_; rintro e w' ⟨rfl, hf⟩)
  go_ret2
  exact ⟨rfl, ((Frm.refl _ _).alloc _).then_ hf⟩
set_option maxRecDepth 100000 in
theorem addr_yes (U : Nat → Use) (x : OpR) (k : Nat) (hk : x.k = k) (hk26 : k < 26) (hm : mayO U x = true) (w : World) (h : Tabs w U) (h0 : 4 < w.heap.size) (hT : TabsOk U) :
    Calls Tryd.prog 44 #[x.V] w fun e w' => e = .returned (.tuple #[.int .u32 ((U k).first + 4 * x.a), .int .u32 (if (U k).other != 0 then (U k).other + 4 * x.o else 0)]) ∧ Frm w w' fun _ => False := by
  have hM : ∀ F : { v : World // Frm w v fun _ => False }, Calls Tryd.prog 46 #[x.V] F.1 fun e w' => e = .returned (.bool true) ∧ Frm F.1 w' fun _ => False := fun F => by
    have := mayP_any U x k hk (by omega) F.1 (h.new_ F.2) (by have := F.2.size; omega)
    rw [hm] at this
    exact this
  obtain ⟨_, ha0, ha1, ho0, ho1⟩ := mayO_bounds hm
  obtain ⟨hf0, hf1⟩ := hT.first k hk26
  obtain ⟨hg0, hg1⟩ := hT.other k hk26
  have c := fun j v hv => h.u k hk26 j v hv
  obtain ⟨⟨uw, uf, uo, ut, ufl, ufa, ua⟩, hu⟩ : ∃ u, U k = u := ⟨_, rfl⟩
  rw [hu] at c hf0 hf1 hg0 hg1 ⊢
  have c0 := c 0 _ rfl
  have c1 := c 1 _ rfl
  have c2 := c 2 _ rfl
  have c3 := c 3 _ rfl
  have c4 := c 4 _ rfl
  have c5 := c 5 _ rfl
  have c6 := c 6 _ rfl
  rw [Nat.add_zero] at c0
  obtain ⟨xk, xa, xo, xt, xfl, xfa, xg⟩ := x
  have hk : xk = k := hk
  subst hk
  have k0 : (0 : Int) ≤ (k : Int) := by omega
  have k1 : (k : Int) < 26 := by omega
  have z0 : 3 < w.heap.size := by omega
  have z1 : (3 : Nat) ≠ w.heap.size := by omega
  simp only at ha0 ha1 ho0 ho1 hf0 hf1 hg0 hg1 ⊢
  have HM := Lib.hid hM
  obtain ⟨b1, e1⟩ : ∃ b, (uo != 0) = b := ⟨_, rfl⟩
  rw [e1]
  clear h hT hu hM hm c h0
  go_enter Tryd.func44, Tryd.ntmps44
  go_upto_region 1 with fail
  refine at_world' ?_
  intro W hW
  have hF : Frm w W fun _ => False := by rw [hW]; exact ((Frm.refl _ _).alloc _)
  have p0 : W.cell? ⟨w.heap.size, 0, none⟩ = some (.int .u8 k) := by subst hW; go_simp
  have p1 : W.cell? ⟨w.heap.size, 1, none⟩ = some (.int .i64 xa) := by subst hW; go_simp
  have p2 : W.cell? ⟨w.heap.size, 2, none⟩ = some (.int .i64 xo) := by subst hW; go_simp
  have p3 : W.cell? ⟨w.heap.size, 3, none⟩ = some (.int .i64 xt) := by subst hW; go_simp
  have p4 : W.cell? ⟨w.heap.size, 4, none⟩ = some (.bool xfl) := by subst hW; go_simp
  have p5 : W.cell? ⟨w.heap.size, 5, none⟩ = some (.bool xfa) := by subst hW; go_simp
  have p6 : W.cell? ⟨w.heap.size, 6, none⟩ = some (.int .i64 xg) := by subst hW; go_simp
  have hsW : W.heap.size = w.heap.size + 1 := by subst hW; simp
  clear hW
  obtain ⟨b, hb⟩ : ∃ b, w.heap.size = b := ⟨_, rfl⟩
  rw [hb] at p0 p1 p2 p3 p4 p5 p6 hsW z0 z1 ⊢
  go_upto_region 3 with (go_at_call 46; refine (HM.out ⟨_, hF⟩).mono ?_; rintro e w' ⟨rfl, hf⟩)
  have hF2 := hF.then_ hf
  have hz := hf.size
  replace c0 := hF2.cell c0 id
  replace c1 := hF2.cell c1 id
  replace c2 := hF2.cell c2 id
  replace c3 := hF2.cell c3 id
  replace c4 := hF2.cell c4 id
  replace c5 := hF2.cell c5 id
  replace c6 := hF2.cell c6 id
  replace p0 := hf.cell p0 id
  replace p1 := hf.cell p1 id
  replace p2 := hf.cell p2 id
  replace p3 := hf.cell p3 id
  replace p4 := hf.cell p4 id
  replace p5 := hf.cell p5 id
  replace p6 := hf.cell p6 id
  have HF := Lib.hid hF2
  have y0 : 3 < w'.heap.size := by omega
  have y1 : (3 : Nat) ≠ w'.heap.size := by omega
  have y2 : b < w'.heap.size := by omega
  have y3 : b ≠ w'.heap.size := by omega
  clear hF hf hF2 hsW hz
  cases b1
  · go_wp2_with fail
    go_ret2
    exact ⟨by simp, HF.out.alloc _⟩
  · go_wp2_with fail
    go_ret2
    exact ⟨by simp, HF.out.alloc _⟩
theorem addr_any (U : Nat → Use) (x : OpR) (k : Nat) (hk : x.k = k) (hk8 : k < 256) (w : World) (h : Tabs w U) (h0 : 4 < w.heap.size) (hT : TabsOk U) :
    Calls Tryd.prog 44 #[x.V] w fun e w' => e = .returned (.tuple #[.int .u32 (addrO U x).1, .int .u32 (addrO U x).2]) ∧ Frm w w' fun _ => False := by
  by_cases hm : mayO U x = true
  · unfold addrO
    rw [if_pos hm, hk, Int.toNat_natCast]
    exact addr_yes U x k hk (by have := (mayO_bounds hm).1; omega) hm w h h0 hT
  · unfold addrO
    rw [if_neg hm]
    exact addr_no U x k hk hk8 (by simpa using hm) w h h0
end Go.Proofs.YtmjpaaippilioaaDoor
