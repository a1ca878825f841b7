import Derived.Test.YtmjpaaippilioaaDoorPgX
namespace Go.Proofs.YtmjpaaippilioaaDoor
open Go.RowKit Go.MapKept

set_option maxRecDepth 100000 in
set_option maxHeartbeats 2000000 in
theorem nx1 (b : Nat) (l : List Th) (hb : ∀ k ∈ l, 0 ≤ k.1 ∧ k.1 ≤ 131072) (xa xo xt : Int) (xfl xfa : Bool) (xg : Int) (a o : Int) (w : World) (h : MpS w th2V b (oneV l)) (hs2 : 4 < b)
    (hA : ∀ v, (Frm w v fun _ => False) → Calls Tryd.prog 44 #[OpR.V ⟨1, xa, xo, xt, xfl, xfa, xg⟩] v fun e w' => e = .returned (.tuple #[.int .u32 a, .int .u32 o]) ∧ Frm v w' fun _ => False) : Nx b ⟨1, xa, xo, xt, xfl, xfa, xg⟩ false (l) w := by
  unfold Nx
  have hlt := h.lt
  have HB := Lib.hid hb
  have HM := Lib.hid h
  have HA := Lib.hid hA
  have ht : Tryd.prog.underlying 93 = some (.map 126 3) := by kernel_rfl
  clear hb h hA
  go_enter Tryd.func62, Tryd.ntmps62
  go_upto_region 1 with fail
  refine at_world' ?_
  intro W hW
  have hF : Frm w W fun _ => False := by rw [hW]; exact ((Frm.refl _ _).alloc _)
  have p0 : W.cell? ⟨w.heap.size, 0, none⟩ = some (.int .u8 1) := by subst hW; go_simp
  have p1 : W.cell? ⟨w.heap.size, 1, none⟩ = some (.int .i64 xa) := by subst hW; go_simp
  have p2 : W.cell? ⟨w.heap.size, 2, none⟩ = some (.int .i64 xo) := by subst hW; go_simp
  have p3 : W.cell? ⟨w.heap.size, 3, none⟩ = some (.int .i64 xt) := by subst hW; go_simp
  have p4 : W.cell? ⟨w.heap.size, 4, none⟩ = some (.bool xfl) := by subst hW; go_simp
  have p5 : W.cell? ⟨w.heap.size, 5, none⟩ = some (.bool xfa) := by subst hW; go_simp
  have p6 : W.cell? ⟨w.heap.size, 6, none⟩ = some (.int .i64 xg) := by subst hW; go_simp
  have hsW : w.heap.size < W.heap.size := by subst hW; simp
  clear hW
  go_upto_region 2 with (go_at_call 44; refine (HA.out _ hF).mono ?_; rintro e w2 ⟨rfl, hf⟩)
  replace hF := hF.then_ hf
  replace p0 := hf.cell p0 id
  replace p1 := hf.cell p1 id
  replace p2 := hf.cell p2 id
  replace p3 := hf.cell p3 id
  replace p4 := hf.cell p4 id
  replace p5 := hf.cell p5 id
  replace p6 := hf.cell p6 id
  have HM2 := Lib.hid (HM.out.frm hF id)
  have HF := Lib.hid hF
  have hsz : w.heap.size < w2.heap.size := Nat.lt_of_lt_of_le hsW hf.size
  obtain ⟨q, hq⟩ : ∃ q, w.heap.size = q := ⟨_, rfl⟩
  rw [hq] at p0 p1 p2 p3 p4 p5 p6 hsz hlt ⊢
  have hq2 : q ≠ w2.heap.size := by omega
  have hb2 : (4 : Nat) < w2.heap.size := by omega
  have hb3 : (4 : Nat) ≠ w2.heap.size := by omega
  clear hF hf hq hsW
  go_wp2_with fail
  go_ret
  exact ⟨rfl, HM2.out, (HF.out).none_ _⟩
set_option maxRecDepth 100000 in
set_option maxHeartbeats 2000000 in
theorem nx4 (b : Nat) (l : List Th) (hb : ∀ k ∈ l, 0 ≤ k.1 ∧ k.1 ≤ 131072) (xa xo xt : Int) (xfl xfa : Bool) (xg : Int) (a o : Int) (w : World) (h : MpS w th2V b (oneV l)) (hs2 : 4 < b)
    (hA : ∀ v, (Frm w v fun _ => False) → Calls Tryd.prog 44 #[OpR.V ⟨4, xa, xo, xt, xfl, xfa, xg⟩] v fun e w' => e = .returned (.tuple #[.int .u32 a, .int .u32 o]) ∧ Frm v w' fun _ => False) : Nx b ⟨4, xa, xo, xt, xfl, xfa, xg⟩ false (l) w := by
  unfold Nx
  have hlt := h.lt
  have HB := Lib.hid hb
  have HM := Lib.hid h
  have HA := Lib.hid hA
  have ht : Tryd.prog.underlying 93 = some (.map 126 3) := by kernel_rfl
  clear hb h hA
  go_enter Tryd.func62, Tryd.ntmps62
  go_upto_region 1 with fail
  refine at_world' ?_
  intro W hW
  have hF : Frm w W fun _ => False := by rw [hW]; exact ((Frm.refl _ _).alloc _)
  have p0 : W.cell? ⟨w.heap.size, 0, none⟩ = some (.int .u8 4) := by subst hW; go_simp
  have p1 : W.cell? ⟨w.heap.size, 1, none⟩ = some (.int .i64 xa) := by subst hW; go_simp
  have p2 : W.cell? ⟨w.heap.size, 2, none⟩ = some (.int .i64 xo) := by subst hW; go_simp
  have p3 : W.cell? ⟨w.heap.size, 3, none⟩ = some (.int .i64 xt) := by subst hW; go_simp
  have p4 : W.cell? ⟨w.heap.size, 4, none⟩ = some (.bool xfl) := by subst hW; go_simp
  have p5 : W.cell? ⟨w.heap.size, 5, none⟩ = some (.bool xfa) := by subst hW; go_simp
  have p6 : W.cell? ⟨w.heap.size, 6, none⟩ = some (.int .i64 xg) := by subst hW; go_simp
  have hsW : w.heap.size < W.heap.size := by subst hW; simp
  clear hW
  go_upto_region 2 with (go_at_call 44; refine (HA.out _ hF).mono ?_; rintro e w2 ⟨rfl, hf⟩)
  replace hF := hF.then_ hf
  replace p0 := hf.cell p0 id
  replace p1 := hf.cell p1 id
  replace p2 := hf.cell p2 id
  replace p3 := hf.cell p3 id
  replace p4 := hf.cell p4 id
  replace p5 := hf.cell p5 id
  replace p6 := hf.cell p6 id
  have HM2 := Lib.hid (HM.out.frm hF id)
  have HF := Lib.hid hF
  have hsz : w.heap.size < w2.heap.size := Nat.lt_of_lt_of_le hsW hf.size
  obtain ⟨q, hq⟩ : ∃ q, w.heap.size = q := ⟨_, rfl⟩
  rw [hq] at p0 p1 p2 p3 p4 p5 p6 hsz hlt ⊢
  have hq2 : q ≠ w2.heap.size := by omega
  have hb2 : (4 : Nat) < w2.heap.size := by omega
  have hb3 : (4 : Nat) ≠ w2.heap.size := by omega
  clear hF hf hq hsW
  go_wp2_with fail
  go_ret
  exact ⟨rfl, HM2.out, (HF.out).none_ _⟩
set_option maxRecDepth 100000 in
set_option maxHeartbeats 2000000 in
theorem nx7 (b : Nat) (l : List Th) (hb : ∀ k ∈ l, 0 ≤ k.1 ∧ k.1 ≤ 131072) (xa xo xt : Int) (xfl xfa : Bool) (xg : Int) (a o : Int) (w : World) (h : MpS w th2V b (oneV l)) (hs2 : 4 < b)
    (hA : ∀ v, (Frm w v fun _ => False) → Calls Tryd.prog 44 #[OpR.V ⟨7, xa, xo, xt, xfl, xfa, xg⟩] v fun e w' => e = .returned (.tuple #[.int .u32 a, .int .u32 o]) ∧ Frm v w' fun _ => False) : Nx b ⟨7, xa, xo, xt, xfl, xfa, xg⟩ false (l) w := by
  unfold Nx
  have hlt := h.lt
  have HB := Lib.hid hb
  have HM := Lib.hid h
  have HA := Lib.hid hA
  have ht : Tryd.prog.underlying 93 = some (.map 126 3) := by kernel_rfl
  clear hb h hA
  go_enter Tryd.func62, Tryd.ntmps62
  go_upto_region 1 with fail
  refine at_world' ?_
  intro W hW
  have hF : Frm w W fun _ => False := by rw [hW]; exact ((Frm.refl _ _).alloc _)
  have p0 : W.cell? ⟨w.heap.size, 0, none⟩ = some (.int .u8 7) := by subst hW; go_simp
  have p1 : W.cell? ⟨w.heap.size, 1, none⟩ = some (.int .i64 xa) := by subst hW; go_simp
  have p2 : W.cell? ⟨w.heap.size, 2, none⟩ = some (.int .i64 xo) := by subst hW; go_simp
  have p3 : W.cell? ⟨w.heap.size, 3, none⟩ = some (.int .i64 xt) := by subst hW; go_simp
  have p4 : W.cell? ⟨w.heap.size, 4, none⟩ = some (.bool xfl) := by subst hW; go_simp
  have p5 : W.cell? ⟨w.heap.size, 5, none⟩ = some (.bool xfa) := by subst hW; go_simp
  have p6 : W.cell? ⟨w.heap.size, 6, none⟩ = some (.int .i64 xg) := by subst hW; go_simp
  have hsW : w.heap.size < W.heap.size := by subst hW; simp
  clear hW
  go_upto_region 2 with (go_at_call 44; refine (HA.out _ hF).mono ?_; rintro e w2 ⟨rfl, hf⟩)
  replace hF := hF.then_ hf
  replace p0 := hf.cell p0 id
  replace p1 := hf.cell p1 id
  replace p2 := hf.cell p2 id
  replace p3 := hf.cell p3 id
  replace p4 := hf.cell p4 id
  replace p5 := hf.cell p5 id
  replace p6 := hf.cell p6 id
  have HM2 := Lib.hid (HM.out.frm hF id)
  have HF := Lib.hid hF
  have hsz : w.heap.size < w2.heap.size := Nat.lt_of_lt_of_le hsW hf.size
  obtain ⟨q, hq⟩ : ∃ q, w.heap.size = q := ⟨_, rfl⟩
  rw [hq] at p0 p1 p2 p3 p4 p5 p6 hsz hlt ⊢
  have hq2 : q ≠ w2.heap.size := by omega
  have hb2 : (4 : Nat) < w2.heap.size := by omega
  have hb3 : (4 : Nat) ≠ w2.heap.size := by omega
  clear hF hf hq hsW
  go_wp2_with fail
  go_ret
  exact ⟨rfl, HM2.out, (HF.out).none_ _⟩
set_option maxRecDepth 100000 in
set_option maxHeartbeats 2000000 in
theorem nx10 (b : Nat) (l : List Th) (hb : ∀ k ∈ l, 0 ≤ k.1 ∧ k.1 ≤ 131072) (xa xo xt : Int) (xfl xfa : Bool) (xg : Int) (a o : Int) (w : World) (h : MpS w th2V b (oneV l)) (hs2 : 4 < b)
    (hA : ∀ v, (Frm w v fun _ => False) → Calls Tryd.prog 44 #[OpR.V ⟨10, xa, xo, xt, xfl, xfa, xg⟩] v fun e w' => e = .returned (.tuple #[.int .u32 a, .int .u32 o]) ∧ Frm v w' fun _ => False) : Nx b ⟨10, xa, xo, xt, xfl, xfa, xg⟩ false (l) w := by
  unfold Nx
  have hlt := h.lt
  have HB := Lib.hid hb
  have HM := Lib.hid h
  have HA := Lib.hid hA
  have ht : Tryd.prog.underlying 93 = some (.map 126 3) := by kernel_rfl
  clear hb h hA
  go_enter Tryd.func62, Tryd.ntmps62
  go_upto_region 1 with fail
  refine at_world' ?_
  intro W hW
  have hF : Frm w W fun _ => False := by rw [hW]; exact ((Frm.refl _ _).alloc _)
  have p0 : W.cell? ⟨w.heap.size, 0, none⟩ = some (.int .u8 10) := by subst hW; go_simp
  have p1 : W.cell? ⟨w.heap.size, 1, none⟩ = some (.int .i64 xa) := by subst hW; go_simp
  have p2 : W.cell? ⟨w.heap.size, 2, none⟩ = some (.int .i64 xo) := by subst hW; go_simp
  have p3 : W.cell? ⟨w.heap.size, 3, none⟩ = some (.int .i64 xt) := by subst hW; go_simp
  have p4 : W.cell? ⟨w.heap.size, 4, none⟩ = some (.bool xfl) := by subst hW; go_simp
  have p5 : W.cell? ⟨w.heap.size, 5, none⟩ = some (.bool xfa) := by subst hW; go_simp
  have p6 : W.cell? ⟨w.heap.size, 6, none⟩ = some (.int .i64 xg) := by subst hW; go_simp
  have hsW : w.heap.size < W.heap.size := by subst hW; simp
  clear hW
  go_upto_region 2 with (go_at_call 44; refine (HA.out _ hF).mono ?_; rintro e w2 ⟨rfl, hf⟩)
  replace hF := hF.then_ hf
  replace p0 := hf.cell p0 id
  replace p1 := hf.cell p1 id
  replace p2 := hf.cell p2 id
  replace p3 := hf.cell p3 id
  replace p4 := hf.cell p4 id
  replace p5 := hf.cell p5 id
  replace p6 := hf.cell p6 id
  have HM2 := Lib.hid (HM.out.frm hF id)
  have HF := Lib.hid hF
  have hsz : w.heap.size < w2.heap.size := Nat.lt_of_lt_of_le hsW hf.size
  obtain ⟨q, hq⟩ : ∃ q, w.heap.size = q := ⟨_, rfl⟩
  rw [hq] at p0 p1 p2 p3 p4 p5 p6 hsz hlt ⊢
  have hq2 : q ≠ w2.heap.size := by omega
  have hb2 : (4 : Nat) < w2.heap.size := by omega
  have hb3 : (4 : Nat) ≠ w2.heap.size := by omega
  clear hF hf hq hsW
  go_wp2_with fail
  go_ret
  exact ⟨rfl, HM2.out, (HF.out).none_ _⟩
set_option maxRecDepth 100000 in
set_option maxHeartbeats 2000000 in
theorem nx12 (b : Nat) (l : List Th) (hb : ∀ k ∈ l, 0 ≤ k.1 ∧ k.1 ≤ 131072) (xa xo xt : Int) (xfl xfa : Bool) (xg : Int) (a o : Int) (w : World) (h : MpS w th2V b (oneV l)) (hs2 : 4 < b)
    (hA : ∀ v, (Frm w v fun _ => False) → Calls Tryd.prog 44 #[OpR.V ⟨12, xa, xo, xt, xfl, xfa, xg⟩] v fun e w' => e = .returned (.tuple #[.int .u32 a, .int .u32 o]) ∧ Frm v w' fun _ => False) : Nx b ⟨12, xa, xo, xt, xfl, xfa, xg⟩ false (l) w := by
  unfold Nx
  have hlt := h.lt
  have HB := Lib.hid hb
  have HM := Lib.hid h
  have HA := Lib.hid hA
  have ht : Tryd.prog.underlying 93 = some (.map 126 3) := by kernel_rfl
  clear hb h hA
  go_enter Tryd.func62, Tryd.ntmps62
  go_upto_region 1 with fail
  refine at_world' ?_
  intro W hW
  have hF : Frm w W fun _ => False := by rw [hW]; exact ((Frm.refl _ _).alloc _)
  have p0 : W.cell? ⟨w.heap.size, 0, none⟩ = some (.int .u8 12) := by subst hW; go_simp
  have p1 : W.cell? ⟨w.heap.size, 1, none⟩ = some (.int .i64 xa) := by subst hW; go_simp
  have p2 : W.cell? ⟨w.heap.size, 2, none⟩ = some (.int .i64 xo) := by subst hW; go_simp
  have p3 : W.cell? ⟨w.heap.size, 3, none⟩ = some (.int .i64 xt) := by subst hW; go_simp
  have p4 : W.cell? ⟨w.heap.size, 4, none⟩ = some (.bool xfl) := by subst hW; go_simp
  have p5 : W.cell? ⟨w.heap.size, 5, none⟩ = some (.bool xfa) := by subst hW; go_simp
  have p6 : W.cell? ⟨w.heap.size, 6, none⟩ = some (.int .i64 xg) := by subst hW; go_simp
  have hsW : w.heap.size < W.heap.size := by subst hW; simp
  clear hW
  go_upto_region 2 with (go_at_call 44; refine (HA.out _ hF).mono ?_; rintro e w2 ⟨rfl, hf⟩)
  replace hF := hF.then_ hf
  replace p0 := hf.cell p0 id
  replace p1 := hf.cell p1 id
  replace p2 := hf.cell p2 id
  replace p3 := hf.cell p3 id
  replace p4 := hf.cell p4 id
  replace p5 := hf.cell p5 id
  replace p6 := hf.cell p6 id
  have HM2 := Lib.hid (HM.out.frm hF id)
  have HF := Lib.hid hF
  have hsz : w.heap.size < w2.heap.size := Nat.lt_of_lt_of_le hsW hf.size
  obtain ⟨q, hq⟩ : ∃ q, w.heap.size = q := ⟨_, rfl⟩
  rw [hq] at p0 p1 p2 p3 p4 p5 p6 hsz hlt ⊢
  have hq2 : q ≠ w2.heap.size := by omega
  have hb2 : (4 : Nat) < w2.heap.size := by omega
  have hb3 : (4 : Nat) ≠ w2.heap.size := by omega
  clear hF hf hq hsW
  go_wp2_with fail
  go_ret
  exact ⟨rfl, HM2.out, (HF.out).none_ _⟩
set_option maxRecDepth 100000 in
set_option maxHeartbeats 2000000 in
theorem nx13 (b : Nat) (l : List Th) (hb : ∀ k ∈ l, 0 ≤ k.1 ∧ k.1 ≤ 131072) (xa xo xt : Int) (xfl xfa : Bool) (xg : Int) (a o : Int) (w : World) (h : MpS w th2V b (oneV l)) (hs2 : 4 < b)
    (hA : ∀ v, (Frm w v fun _ => False) → Calls Tryd.prog 44 #[OpR.V ⟨13, xa, xo, xt, xfl, xfa, xg⟩] v fun e w' => e = .returned (.tuple #[.int .u32 a, .int .u32 o]) ∧ Frm v w' fun _ => False) : Nx b ⟨13, xa, xo, xt, xfl, xfa, xg⟩ false (l) w := by
  unfold Nx
  have hlt := h.lt
  have HB := Lib.hid hb
  have HM := Lib.hid h
  have HA := Lib.hid hA
  have ht : Tryd.prog.underlying 93 = some (.map 126 3) := by kernel_rfl
  clear hb h hA
  go_enter Tryd.func62, Tryd.ntmps62
  go_upto_region 1 with fail
  refine at_world' ?_
  intro W hW
  have hF : Frm w W fun _ => False := by rw [hW]; exact ((Frm.refl _ _).alloc _)
  have p0 : W.cell? ⟨w.heap.size, 0, none⟩ = some (.int .u8 13) := by subst hW; go_simp
  have p1 : W.cell? ⟨w.heap.size, 1, none⟩ = some (.int .i64 xa) := by subst hW; go_simp
  have p2 : W.cell? ⟨w.heap.size, 2, none⟩ = some (.int .i64 xo) := by subst hW; go_simp
  have p3 : W.cell? ⟨w.heap.size, 3, none⟩ = some (.int .i64 xt) := by subst hW; go_simp
  have p4 : W.cell? ⟨w.heap.size, 4, none⟩ = some (.bool xfl) := by subst hW; go_simp
  have p5 : W.cell? ⟨w.heap.size, 5, none⟩ = some (.bool xfa) := by subst hW; go_simp
  have p6 : W.cell? ⟨w.heap.size, 6, none⟩ = some (.int .i64 xg) := by subst hW; go_simp
  have hsW : w.heap.size < W.heap.size := by subst hW; simp
  clear hW
  go_upto_region 2 with (go_at_call 44; refine (HA.out _ hF).mono ?_; rintro e w2 ⟨rfl, hf⟩)
  replace hF := hF.then_ hf
  replace p0 := hf.cell p0 id
  replace p1 := hf.cell p1 id
  replace p2 := hf.cell p2 id
  replace p3 := hf.cell p3 id
  replace p4 := hf.cell p4 id
  replace p5 := hf.cell p5 id
  replace p6 := hf.cell p6 id
  have HM2 := Lib.hid (HM.out.frm hF id)
  have HF := Lib.hid hF
  have hsz : w.heap.size < w2.heap.size := Nat.lt_of_lt_of_le hsW hf.size
  obtain ⟨q, hq⟩ : ∃ q, w.heap.size = q := ⟨_, rfl⟩
  rw [hq] at p0 p1 p2 p3 p4 p5 p6 hsz hlt ⊢
  have hq2 : q ≠ w2.heap.size := by omega
  have hb2 : (4 : Nat) < w2.heap.size := by omega
  have hb3 : (4 : Nat) ≠ w2.heap.size := by omega
  clear hF hf hq hsW
  go_wp2_with fail
  go_ret
  exact ⟨rfl, HM2.out, (HF.out).none_ _⟩
set_option maxRecDepth 100000 in
set_option maxHeartbeats 2000000 in
theorem nx18 (b : Nat) (l : List Th) (hb : ∀ k ∈ l, 0 ≤ k.1 ∧ k.1 ≤ 131072) (xa xo xt : Int) (xfl xfa : Bool) (xg : Int) (a o : Int) (w : World) (h : MpS w th2V b (oneV l)) (hs2 : 4 < b)
    (hA : ∀ v, (Frm w v fun _ => False) → Calls Tryd.prog 44 #[OpR.V ⟨18, xa, xo, xt, xfl, xfa, xg⟩] v fun e w' => e = .returned (.tuple #[.int .u32 a, .int .u32 o]) ∧ Frm v w' fun _ => False) : Nx b ⟨18, xa, xo, xt, xfl, xfa, xg⟩ true (l) w := by
  unfold Nx
  have hlt := h.lt
  have HB := Lib.hid hb
  have HM := Lib.hid h
  have HA := Lib.hid hA
  have ht : Tryd.prog.underlying 93 = some (.map 126 3) := by kernel_rfl
  clear hb h hA
  go_enter Tryd.func62, Tryd.ntmps62
  go_upto_region 1 with fail
  refine at_world' ?_
  intro W hW
  have hF : Frm w W fun _ => False := by rw [hW]; exact ((Frm.refl _ _).alloc _)
  have p0 : W.cell? ⟨w.heap.size, 0, none⟩ = some (.int .u8 18) := by subst hW; go_simp
  have p1 : W.cell? ⟨w.heap.size, 1, none⟩ = some (.int .i64 xa) := by subst hW; go_simp
  have p2 : W.cell? ⟨w.heap.size, 2, none⟩ = some (.int .i64 xo) := by subst hW; go_simp
  have p3 : W.cell? ⟨w.heap.size, 3, none⟩ = some (.int .i64 xt) := by subst hW; go_simp
  have p4 : W.cell? ⟨w.heap.size, 4, none⟩ = some (.bool xfl) := by subst hW; go_simp
  have p5 : W.cell? ⟨w.heap.size, 5, none⟩ = some (.bool xfa) := by subst hW; go_simp
  have p6 : W.cell? ⟨w.heap.size, 6, none⟩ = some (.int .i64 xg) := by subst hW; go_simp
  have hsW : w.heap.size < W.heap.size := by subst hW; simp
  clear hW
  go_upto_region 2 with (go_at_call 44; refine (HA.out _ hF).mono ?_; rintro e w2 ⟨rfl, hf⟩)
  replace hF := hF.then_ hf
  replace p0 := hf.cell p0 id
  replace p1 := hf.cell p1 id
  replace p2 := hf.cell p2 id
  replace p3 := hf.cell p3 id
  replace p4 := hf.cell p4 id
  replace p5 := hf.cell p5 id
  replace p6 := hf.cell p6 id
  have HM2 := Lib.hid (HM.out.frm hF id)
  have HF := Lib.hid hF
  have hsz : w.heap.size < w2.heap.size := Nat.lt_of_lt_of_le hsW hf.size
  obtain ⟨q, hq⟩ : ∃ q, w.heap.size = q := ⟨_, rfl⟩
  rw [hq] at p0 p1 p2 p3 p4 p5 p6 hsz hlt ⊢
  have hq2 : q ≠ w2.heap.size := by omega
  have hb2 : (4 : Nat) < w2.heap.size := by omega
  have hb3 : (4 : Nat) ≠ w2.heap.size := by omega
  clear hF hf hq hsW
  go_wp2_with fail
  go_ret
  exact ⟨rfl, HM2.out, (HF.out).none_ _⟩
set_option maxRecDepth 100000 in
set_option maxHeartbeats 2000000 in
theorem nx19 (b : Nat) (l : List Th) (hb : ∀ k ∈ l, 0 ≤ k.1 ∧ k.1 ≤ 131072) (xa xo xt : Int) (xfl xfa : Bool) (xg : Int) (a o : Int) (w : World) (h : MpS w th2V b (oneV l)) (hs2 : 4 < b)
    (hA : ∀ v, (Frm w v fun _ => False) → Calls Tryd.prog 44 #[OpR.V ⟨19, xa, xo, xt, xfl, xfa, xg⟩] v fun e w' => e = .returned (.tuple #[.int .u32 a, .int .u32 o]) ∧ Frm v w' fun _ => False) : Nx b ⟨19, xa, xo, xt, xfl, xfa, xg⟩ true (l) w := by
  unfold Nx
  have hlt := h.lt
  have HB := Lib.hid hb
  have HM := Lib.hid h
  have HA := Lib.hid hA
  have ht : Tryd.prog.underlying 93 = some (.map 126 3) := by kernel_rfl
  clear hb h hA
  go_enter Tryd.func62, Tryd.ntmps62
  go_upto_region 1 with fail
  refine at_world' ?_
  intro W hW
  have hF : Frm w W fun _ => False := by rw [hW]; exact ((Frm.refl _ _).alloc _)
  have p0 : W.cell? ⟨w.heap.size, 0, none⟩ = some (.int .u8 19) := by subst hW; go_simp
  have p1 : W.cell? ⟨w.heap.size, 1, none⟩ = some (.int .i64 xa) := by subst hW; go_simp
  have p2 : W.cell? ⟨w.heap.size, 2, none⟩ = some (.int .i64 xo) := by subst hW; go_simp
  have p3 : W.cell? ⟨w.heap.size, 3, none⟩ = some (.int .i64 xt) := by subst hW; go_simp
  have p4 : W.cell? ⟨w.heap.size, 4, none⟩ = some (.bool xfl) := by subst hW; go_simp
  have p5 : W.cell? ⟨w.heap.size, 5, none⟩ = some (.bool xfa) := by subst hW; go_simp
  have p6 : W.cell? ⟨w.heap.size, 6, none⟩ = some (.int .i64 xg) := by subst hW; go_simp
  have hsW : w.heap.size < W.heap.size := by subst hW; simp
  clear hW
  go_upto_region 2 with (go_at_call 44; refine (HA.out _ hF).mono ?_; rintro e w2 ⟨rfl, hf⟩)
  replace hF := hF.then_ hf
  replace p0 := hf.cell p0 id
  replace p1 := hf.cell p1 id
  replace p2 := hf.cell p2 id
  replace p3 := hf.cell p3 id
  replace p4 := hf.cell p4 id
  replace p5 := hf.cell p5 id
  replace p6 := hf.cell p6 id
  have HM2 := Lib.hid (HM.out.frm hF id)
  have HF := Lib.hid hF
  have hsz : w.heap.size < w2.heap.size := Nat.lt_of_lt_of_le hsW hf.size
  obtain ⟨q, hq⟩ : ∃ q, w.heap.size = q := ⟨_, rfl⟩
  rw [hq] at p0 p1 p2 p3 p4 p5 p6 hsz hlt ⊢
  have hq2 : q ≠ w2.heap.size := by omega
  have hb2 : (4 : Nat) < w2.heap.size := by omega
  have hb3 : (4 : Nat) ≠ w2.heap.size := by omega
  clear hF hf hq hsW
  go_wp2_with fail
  go_ret
  exact ⟨rfl, HM2.out, (HF.out).none_ _⟩
set_option maxRecDepth 100000 in
set_option maxHeartbeats 2000000 in
theorem nx20 (b : Nat) (l : List Th) (hb : ∀ k ∈ l, 0 ≤ k.1 ∧ k.1 ≤ 131072) (xa xo xt : Int) (xfl xfa : Bool) (xg : Int) (a o : Int) (w : World) (h : MpS w th2V b (oneV l)) (hs2 : 4 < b)
    (hA : ∀ v, (Frm w v fun _ => False) → Calls Tryd.prog 44 #[OpR.V ⟨20, xa, xo, xt, xfl, xfa, xg⟩] v fun e w' => e = .returned (.tuple #[.int .u32 a, .int .u32 o]) ∧ Frm v w' fun _ => False) : Nx b ⟨20, xa, xo, xt, xfl, xfa, xg⟩ true (l) w := by
  unfold Nx
  have hlt := h.lt
  have HB := Lib.hid hb
  have HM := Lib.hid h
  have HA := Lib.hid hA
  have ht : Tryd.prog.underlying 93 = some (.map 126 3) := by kernel_rfl
  clear hb h hA
  go_enter Tryd.func62, Tryd.ntmps62
  go_upto_region 1 with fail
  refine at_world' ?_
  intro W hW
  have hF : Frm w W fun _ => False := by rw [hW]; exact ((Frm.refl _ _).alloc _)
  have p0 : W.cell? ⟨w.heap.size, 0, none⟩ = some (.int .u8 20) := by subst hW; go_simp
  have p1 : W.cell? ⟨w.heap.size, 1, none⟩ = some (.int .i64 xa) := by subst hW; go_simp
  have p2 : W.cell? ⟨w.heap.size, 2, none⟩ = some (.int .i64 xo) := by subst hW; go_simp
  have p3 : W.cell? ⟨w.heap.size, 3, none⟩ = some (.int .i64 xt) := by subst hW; go_simp
  have p4 : W.cell? ⟨w.heap.size, 4, none⟩ = some (.bool xfl) := by subst hW; go_simp
  have p5 : W.cell? ⟨w.heap.size, 5, none⟩ = some (.bool xfa) := by subst hW; go_simp
  have p6 : W.cell? ⟨w.heap.size, 6, none⟩ = some (.int .i64 xg) := by subst hW; go_simp
  have hsW : w.heap.size < W.heap.size := by subst hW; simp
  clear hW
  go_upto_region 2 with (go_at_call 44; refine (HA.out _ hF).mono ?_; rintro e w2 ⟨rfl, hf⟩)
  replace hF := hF.then_ hf
  replace p0 := hf.cell p0 id
  replace p1 := hf.cell p1 id
  replace p2 := hf.cell p2 id
  replace p3 := hf.cell p3 id
  replace p4 := hf.cell p4 id
  replace p5 := hf.cell p5 id
  replace p6 := hf.cell p6 id
  have HM2 := Lib.hid (HM.out.frm hF id)
  have HF := Lib.hid hF
  have hsz : w.heap.size < w2.heap.size := Nat.lt_of_lt_of_le hsW hf.size
  obtain ⟨q, hq⟩ : ∃ q, w.heap.size = q := ⟨_, rfl⟩
  rw [hq] at p0 p1 p2 p3 p4 p5 p6 hsz hlt ⊢
  have hq2 : q ≠ w2.heap.size := by omega
  have hb2 : (4 : Nat) < w2.heap.size := by omega
  have hb3 : (4 : Nat) ≠ w2.heap.size := by omega
  clear hF hf hq hsW
  go_wp2_with fail
  go_ret
  exact ⟨rfl, HM2.out, (HF.out).none_ _⟩
set_option maxRecDepth 100000 in
set_option maxHeartbeats 2000000 in
theorem nx22 (b : Nat) (l : List Th) (hb : ∀ k ∈ l, 0 ≤ k.1 ∧ k.1 ≤ 131072) (xa xo xt : Int) (xfl xfa : Bool) (xg : Int) (a o : Int) (w : World) (h : MpS w th2V b (oneV l)) (hs2 : 4 < b)
    (hA : ∀ v, (Frm w v fun _ => False) → Calls Tryd.prog 44 #[OpR.V ⟨22, xa, xo, xt, xfl, xfa, xg⟩] v fun e w' => e = .returned (.tuple #[.int .u32 a, .int .u32 o]) ∧ Frm v w' fun _ => False) : Nx b ⟨22, xa, xo, xt, xfl, xfa, xg⟩ true (l) w := by
  unfold Nx
  have hlt := h.lt
  have HB := Lib.hid hb
  have HM := Lib.hid h
  have HA := Lib.hid hA
  have ht : Tryd.prog.underlying 93 = some (.map 126 3) := by kernel_rfl
  clear hb h hA
  go_enter Tryd.func62, Tryd.ntmps62
  go_upto_region 1 with fail
  refine at_world' ?_
  intro W hW
  have hF : Frm w W fun _ => False := by rw [hW]; exact ((Frm.refl _ _).alloc _)
  have p0 : W.cell? ⟨w.heap.size, 0, none⟩ = some (.int .u8 22) := by subst hW; go_simp
  have p1 : W.cell? ⟨w.heap.size, 1, none⟩ = some (.int .i64 xa) := by subst hW; go_simp
  have p2 : W.cell? ⟨w.heap.size, 2, none⟩ = some (.int .i64 xo) := by subst hW; go_simp
  have p3 : W.cell? ⟨w.heap.size, 3, none⟩ = some (.int .i64 xt) := by subst hW; go_simp
  have p4 : W.cell? ⟨w.heap.size, 4, none⟩ = some (.bool xfl) := by subst hW; go_simp
  have p5 : W.cell? ⟨w.heap.size, 5, none⟩ = some (.bool xfa) := by subst hW; go_simp
  have p6 : W.cell? ⟨w.heap.size, 6, none⟩ = some (.int .i64 xg) := by subst hW; go_simp
  have hsW : w.heap.size < W.heap.size := by subst hW; simp
  clear hW
  go_upto_region 2 with (go_at_call 44; refine (HA.out _ hF).mono ?_; rintro e w2 ⟨rfl, hf⟩)
  replace hF := hF.then_ hf
  replace p0 := hf.cell p0 id
  replace p1 := hf.cell p1 id
  replace p2 := hf.cell p2 id
  replace p3 := hf.cell p3 id
  replace p4 := hf.cell p4 id
  replace p5 := hf.cell p5 id
  replace p6 := hf.cell p6 id
  have HM2 := Lib.hid (HM.out.frm hF id)
  have HF := Lib.hid hF
  have hsz : w.heap.size < w2.heap.size := Nat.lt_of_lt_of_le hsW hf.size
  obtain ⟨q, hq⟩ : ∃ q, w.heap.size = q := ⟨_, rfl⟩
  rw [hq] at p0 p1 p2 p3 p4 p5 p6 hsz hlt ⊢
  have hq2 : q ≠ w2.heap.size := by omega
  have hb2 : (4 : Nat) < w2.heap.size := by omega
  have hb3 : (4 : Nat) ≠ w2.heap.size := by omega
  clear hF hf hq hsW
  go_wp2_with fail
  go_ret
  exact ⟨rfl, HM2.out, (HF.out).none_ _⟩
set_option maxRecDepth 100000 in
set_option maxHeartbeats 2000000 in
theorem nx23 (b : Nat) (l : List Th) (hb : ∀ k ∈ l, 0 ≤ k.1 ∧ k.1 ≤ 131072) (xa xo xt : Int) (xfl xfa : Bool) (xg : Int) (a o : Int) (w : World) (h : MpS w th2V b (oneV l)) (hs2 : 4 < b)
    (hA : ∀ v, (Frm w v fun _ => False) → Calls Tryd.prog 44 #[OpR.V ⟨23, xa, xo, xt, xfl, xfa, xg⟩] v fun e w' => e = .returned (.tuple #[.int .u32 a, .int .u32 o]) ∧ Frm v w' fun _ => False) : Nx b ⟨23, xa, xo, xt, xfl, xfa, xg⟩ true (l) w := by
  unfold Nx
  have hlt := h.lt
  have HB := Lib.hid hb
  have HM := Lib.hid h
  have HA := Lib.hid hA
  have ht : Tryd.prog.underlying 93 = some (.map 126 3) := by kernel_rfl
  clear hb h hA
  go_enter Tryd.func62, Tryd.ntmps62
  go_upto_region 1 with fail
  refine at_world' ?_
  intro W hW
  have hF : Frm w W fun _ => False := by rw [hW]; exact ((Frm.refl _ _).alloc _)
  have p0 : W.cell? ⟨w.heap.size, 0, none⟩ = some (.int .u8 23) := by subst hW; go_simp
  have p1 : W.cell? ⟨w.heap.size, 1, none⟩ = some (.int .i64 xa) := by subst hW; go_simp
  have p2 : W.cell? ⟨w.heap.size, 2, none⟩ = some (.int .i64 xo) := by subst hW; go_simp
  have p3 : W.cell? ⟨w.heap.size, 3, none⟩ = some (.int .i64 xt) := by subst hW; go_simp
  have p4 : W.cell? ⟨w.heap.size, 4, none⟩ = some (.bool xfl) := by subst hW; go_simp
  have p5 : W.cell? ⟨w.heap.size, 5, none⟩ = some (.bool xfa) := by subst hW; go_simp
  have p6 : W.cell? ⟨w.heap.size, 6, none⟩ = some (.int .i64 xg) := by subst hW; go_simp
  have hsW : w.heap.size < W.heap.size := by subst hW; simp
  clear hW
  go_upto_region 2 with (go_at_call 44; refine (HA.out _ hF).mono ?_; rintro e w2 ⟨rfl, hf⟩)
  replace hF := hF.then_ hf
  replace p0 := hf.cell p0 id
  replace p1 := hf.cell p1 id
  replace p2 := hf.cell p2 id
  replace p3 := hf.cell p3 id
  replace p4 := hf.cell p4 id
  replace p5 := hf.cell p5 id
  replace p6 := hf.cell p6 id
  have HM2 := Lib.hid (HM.out.frm hF id)
  have HF := Lib.hid hF
  have hsz : w.heap.size < w2.heap.size := Nat.lt_of_lt_of_le hsW hf.size
  obtain ⟨q, hq⟩ : ∃ q, w.heap.size = q := ⟨_, rfl⟩
  rw [hq] at p0 p1 p2 p3 p4 p5 p6 hsz hlt ⊢
  have hq2 : q ≠ w2.heap.size := by omega
  have hb2 : (4 : Nat) < w2.heap.size := by omega
  have hb3 : (4 : Nat) ≠ w2.heap.size := by omega
  clear hF hf hq hsW
  go_wp2_with fail
  go_ret
  exact ⟨rfl, HM2.out, (HF.out).none_ _⟩
set_option maxRecDepth 100000 in
set_option maxHeartbeats 2000000 in
theorem nx24 (b : Nat) (l : List Th) (hb : ∀ k ∈ l, 0 ≤ k.1 ∧ k.1 ≤ 131072) (xa xo xt : Int) (xfl xfa : Bool) (xg : Int) (a o : Int) (w : World) (h : MpS w th2V b (oneV l)) (hs2 : 4 < b)
    (hA : ∀ v, (Frm w v fun _ => False) → Calls Tryd.prog 44 #[OpR.V ⟨24, xa, xo, xt, xfl, xfa, xg⟩] v fun e w' => e = .returned (.tuple #[.int .u32 a, .int .u32 o]) ∧ Frm v w' fun _ => False) : Nx b ⟨24, xa, xo, xt, xfl, xfa, xg⟩ true (l) w := by
  unfold Nx
  have hlt := h.lt
  have HB := Lib.hid hb
  have HM := Lib.hid h
  have HA := Lib.hid hA
  have ht : Tryd.prog.underlying 93 = some (.map 126 3) := by kernel_rfl
  clear hb h hA
  go_enter Tryd.func62, Tryd.ntmps62
  go_upto_region 1 with fail
  refine at_world' ?_
  intro W hW
  have hF : Frm w W fun _ => False := by rw [hW]; exact ((Frm.refl _ _).alloc _)
  have p0 : W.cell? ⟨w.heap.size, 0, none⟩ = some (.int .u8 24) := by subst hW; go_simp
  have p1 : W.cell? ⟨w.heap.size, 1, none⟩ = some (.int .i64 xa) := by subst hW; go_simp
  have p2 : W.cell? ⟨w.heap.size, 2, none⟩ = some (.int .i64 xo) := by subst hW; go_simp
  have p3 : W.cell? ⟨w.heap.size, 3, none⟩ = some (.int .i64 xt) := by subst hW; go_simp
  have p4 : W.cell? ⟨w.heap.size, 4, none⟩ = some (.bool xfl) := by subst hW; go_simp
  have p5 : W.cell? ⟨w.heap.size, 5, none⟩ = some (.bool xfa) := by subst hW; go_simp
  have p6 : W.cell? ⟨w.heap.size, 6, none⟩ = some (.int .i64 xg) := by subst hW; go_simp
  have hsW : w.heap.size < W.heap.size := by subst hW; simp
  clear hW
  go_upto_region 2 with (go_at_call 44; refine (HA.out _ hF).mono ?_; rintro e w2 ⟨rfl, hf⟩)
  replace hF := hF.then_ hf
  replace p0 := hf.cell p0 id
  replace p1 := hf.cell p1 id
  replace p2 := hf.cell p2 id
  replace p3 := hf.cell p3 id
  replace p4 := hf.cell p4 id
  replace p5 := hf.cell p5 id
  replace p6 := hf.cell p6 id
  have HM2 := Lib.hid (HM.out.frm hF id)
  have HF := Lib.hid hF
  have hsz : w.heap.size < w2.heap.size := Nat.lt_of_lt_of_le hsW hf.size
  obtain ⟨q, hq⟩ : ∃ q, w.heap.size = q := ⟨_, rfl⟩
  rw [hq] at p0 p1 p2 p3 p4 p5 p6 hsz hlt ⊢
  have hq2 : q ≠ w2.heap.size := by omega
  have hb2 : (4 : Nat) < w2.heap.size := by omega
  have hb3 : (4 : Nat) ≠ w2.heap.size := by omega
  clear hF hf hq hsW
  go_wp2_with fail
  go_ret
  exact ⟨rfl, HM2.out, (HF.out).none_ _⟩
set_option maxRecDepth 100000 in
set_option maxHeartbeats 2000000 in
theorem nx25 (b : Nat) (l : List Th) (hb : ∀ k ∈ l, 0 ≤ k.1 ∧ k.1 ≤ 131072) (xa xo xt : Int) (xfl xfa : Bool) (xg : Int) (a o : Int) (w : World) (h : MpS w th2V b (oneV l)) (hs2 : 4 < b)
    (hA : ∀ v, (Frm w v fun _ => False) → Calls Tryd.prog 44 #[OpR.V ⟨25, xa, xo, xt, xfl, xfa, xg⟩] v fun e w' => e = .returned (.tuple #[.int .u32 a, .int .u32 o]) ∧ Frm v w' fun _ => False) : Nx b ⟨25, xa, xo, xt, xfl, xfa, xg⟩ true (l) w := by
  unfold Nx
  have hlt := h.lt
  have HB := Lib.hid hb
  have HM := Lib.hid h
  have HA := Lib.hid hA
  have ht : Tryd.prog.underlying 93 = some (.map 126 3) := by kernel_rfl
  clear hb h hA
  go_enter Tryd.func62, Tryd.ntmps62
  go_upto_region 1 with fail
  refine at_world' ?_
  intro W hW
  have hF : Frm w W fun _ => False := by rw [hW]; exact ((Frm.refl _ _).alloc _)
  have p0 : W.cell? ⟨w.heap.size, 0, none⟩ = some (.int .u8 25) := by subst hW; go_simp
  have p1 : W.cell? ⟨w.heap.size, 1, none⟩ = some (.int .i64 xa) := by subst hW; go_simp
  have p2 : W.cell? ⟨w.heap.size, 2, none⟩ = some (.int .i64 xo) := by subst hW; go_simp
  have p3 : W.cell? ⟨w.heap.size, 3, none⟩ = some (.int .i64 xt) := by subst hW; go_simp
  have p4 : W.cell? ⟨w.heap.size, 4, none⟩ = some (.bool xfl) := by subst hW; go_simp
  have p5 : W.cell? ⟨w.heap.size, 5, none⟩ = some (.bool xfa) := by subst hW; go_simp
  have p6 : W.cell? ⟨w.heap.size, 6, none⟩ = some (.int .i64 xg) := by subst hW; go_simp
  have hsW : w.heap.size < W.heap.size := by subst hW; simp
  clear hW
  go_upto_region 2 with (go_at_call 44; refine (HA.out _ hF).mono ?_; rintro e w2 ⟨rfl, hf⟩)
  replace hF := hF.then_ hf
  replace p0 := hf.cell p0 id
  replace p1 := hf.cell p1 id
  replace p2 := hf.cell p2 id
  replace p3 := hf.cell p3 id
  replace p4 := hf.cell p4 id
  replace p5 := hf.cell p5 id
  replace p6 := hf.cell p6 id
  have HM2 := Lib.hid (HM.out.frm hF id)
  have HF := Lib.hid hF
  have hsz : w.heap.size < w2.heap.size := Nat.lt_of_lt_of_le hsW hf.size
  obtain ⟨q, hq⟩ : ∃ q, w.heap.size = q := ⟨_, rfl⟩
  rw [hq] at p0 p1 p2 p3 p4 p5 p6 hsz hlt ⊢
  have hq2 : q ≠ w2.heap.size := by omega
  have hb2 : (4 : Nat) < w2.heap.size := by omega
  have hb3 : (4 : Nat) ≠ w2.heap.size := by omega
  clear hF hf hq hsW
  go_wp2_with fail
  go_ret
  exact ⟨rfl, HM2.out, (HF.out).none_ _⟩
end Go.Proofs.YtmjpaaippilioaaDoor
