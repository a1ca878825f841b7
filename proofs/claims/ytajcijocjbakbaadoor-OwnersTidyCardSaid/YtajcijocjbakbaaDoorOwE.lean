import Derived.Test.YtajcijocjbakbaaDoorOwD
namespace Go.Proofs.YtajcijocjbakbaaDoor
open Go.RowKit

/-! ### cells of blocks that came one behind the other -/
section
variable {w : World} {c : Array Value} {t : TypeId} {j : Nat} {v : Value}
theorem new1 (h : c[j]? = some v) (o2 o3 : Obj) : (((w.alloc (.cells c t)).alloc o2).alloc o3).cell? ⟨w.heap.size, j, none⟩ = some v :=
  (((Frm.refl _ fun _ => False).alloc o2).alloc o3).cell (by rw [World.cell?_alloc_new]; exact h) id
theorem new2 (h : c[j]? = some v) (o1 o3 : Obj) : (((w.alloc o1).alloc (.cells c t)).alloc o3).cell? ⟨w.heap.size + 1, j, none⟩ = some v := by
  refine ((Frm.refl _ fun _ => False).alloc o3).cell ?_ id
  have e : w.heap.size + 1 = (w.alloc o1).heap.size := by simp
  rw [e, World.cell?_alloc_new]
  exact h
theorem new3 (h : c[j]? = some v) (o1 o2 : Obj) : (((w.alloc o1).alloc o2).alloc (.cells c t)).cell? ⟨w.heap.size + 2, j, none⟩ = some v := by
  have e : w.heap.size + 2 = ((w.alloc o1).alloc o2).heap.size := by simp
  rw [e, World.cell?_alloc_new]
  exact h
theorem froz2 (o1 o3 : Obj) : (((w.alloc o1).alloc (.cells c t)).alloc o3).frozen? ⟨w.heap.size + 1, j, none⟩ = false := by
  have e : w.heap.size + 1 = (w.alloc o1).heap.size := by simp
  rw [((Frm.refl ((w.alloc o1).alloc (.cells c t)) fun _ => False).alloc o3).frozen (by simp) id, e]
  exact World.frozen?_alloc_new _ _ _ _
theorem froz3 (o1 o2 : Obj) : (((w.alloc o1).alloc o2).alloc (.cells c t)).frozen? ⟨w.heap.size + 2, j, none⟩ = false := by
  have e : w.heap.size + 2 = ((w.alloc o1).alloc o2).heap.size := by simp
  rw [e]
  exact World.frozen?_alloc_new _ _ _ _
end
/-! ### what an operation asks for, and of which thing -/
def atO (U : Nat → Use) (A : Nat → Ask) (x : OpR) : Int := if (A x.k.toNat).other then (addrO U x).2 else (addrO U x).1
abbrev askV (a : Ask) : Value := .agg a.V.toArray
set_option maxRecDepth 100000 in
set_option maxHeartbeats 2000000 in
theorem of_any (U : Nat → Use) (A : Nat → Ask) (x : OpR) (k : Nat) (hk : x.k = k) (hk26 : k < 26) (t : Int) (w : World) (h : Tabs w U A) (h0 : 1 < w.heap.size) (hT : TabsOk U) :
    Calls Tryd.prog 17 #[.int .i64 t, x.V] w fun e w' => e = .returned (.tuple #[.agg #[.bool (A k).is, .int .u8 (A k).from_, .int .u8 (A k).to_, .int .i64 (A k).e, .bool (A k).other], thV (t, atO U A x)]) ∧ Frm w w' fun _ => False := by
  have hM : ∀ F : { v : World // Frm w v fun _ => False }, Calls Tryd.prog 10 #[x.V] F.1 fun e w' => e = .returned (.tuple #[.int .u32 (addrO U x).1, .int .u32 (addrO U x).2]) ∧ Frm F.1 w' fun _ => False := fun F => by
    exact addr_any U A x k hk (by omega) F.1 (h.new_ F.2) (by have := F.2.size; omega) hT
  have c := fun j v hv => h.a k hk26 j v hv
  have hat : atO U A x = if (A k).other then (addrO U x).2 else (addrO U x).1 := by unfold atO; rw [hk, Int.toNat_natCast]
  rw [hat]
  obtain ⟨a1, ha1⟩ : ∃ a, (addrO U x).1 = a := ⟨_, rfl⟩
  obtain ⟨a2, ha2⟩ : ∃ a, (addrO U x).2 = a := ⟨_, rfl⟩
  rw [ha1, ha2] at hM ⊢
  obtain ⟨⟨qi, qf, qt, qe, qo⟩, hu⟩ : ∃ u, A k = u := ⟨_, rfl⟩
  rw [hu] at c ⊢
  have c0 : w.cell? ⟨1, k * 5, none⟩ = some (.bool qi) := c 0 _ rfl
  have c1 : w.cell? ⟨1, k * 5 + 1, none⟩ = some (.int .u8 qf) := c 1 _ rfl
  have c2 : w.cell? ⟨1, k * 5 + 2, none⟩ = some (.int .u8 qt) := c 2 _ rfl
  have c3 : w.cell? ⟨1, k * 5 + 3, none⟩ = some (.int .i64 qe) := c 3 _ rfl
  have c4 : w.cell? ⟨1, k * 5 + 4, none⟩ = some (.bool qo) := c 4 _ rfl
  obtain ⟨xk, xa, xo, xt, xfl, xfa, xg⟩ := x
  have hk : xk = k := hk
  subst hk
  have k0 : (0 : Int) ≤ (k : Int) := by omega
  have k1 : (k : Int) < 26 := by omega
  have HM := Lib.hid hM
  simp only
  clear hk
  clear h hT hu hM hat ha1 ha2 c
  obtain ⟨th, hth⟩ : ∃ v, v = if qo then a2 else a1 := ⟨_, rfl⟩
  rw [← hth]
  have HTH := Lib.hid hth
  clear hth
  go_enter Tryd.func17, Tryd.ntmps17
  go_upto_region 1 with fail
  refine at_world' ?_
  intro W hW
  have hF : Frm w W fun _ => False := by rw [hW]; exact (((Frm.refl _ _).alloc _).alloc _).alloc _
  have p0 : W.cell? ⟨w.heap.size, 0, none⟩ = some (.int .u8 k) := by rw [hW]; exact new1 rfl _ _
  have p1 : W.cell? ⟨w.heap.size, 1, none⟩ = some (.int .i64 xa) := by rw [hW]; exact new1 rfl _ _
  have p2 : W.cell? ⟨w.heap.size, 2, none⟩ = some (.int .i64 xo) := by rw [hW]; exact new1 rfl _ _
  have p3 : W.cell? ⟨w.heap.size, 3, none⟩ = some (.int .i64 xt) := by rw [hW]; exact new1 rfl _ _
  have p4 : W.cell? ⟨w.heap.size, 4, none⟩ = some (.bool xfl) := by rw [hW]; exact new1 rfl _ _
  have p5 : W.cell? ⟨w.heap.size, 5, none⟩ = some (.bool xfa) := by rw [hW]; exact new1 rfl _ _
  have p6 : W.cell? ⟨w.heap.size, 6, none⟩ = some (.int .i64 xg) := by rw [hW]; exact new1 rfl _ _
  have hsW : W.heap.size = w.heap.size + 3 := by subst hW; simp
  have q0 : W.cell? ⟨w.heap.size + 1, 0, none⟩ = some (.bool false) := by rw [hW]; exact new2 rfl _ _
  have q1 : W.cell? ⟨w.heap.size + 1, 1, none⟩ = some (.int .u8 0) := by rw [hW]; exact new2 rfl _ _
  have q2 : W.cell? ⟨w.heap.size + 1, 2, none⟩ = some (.int .u8 0) := by rw [hW]; exact new2 rfl _ _
  have q3 : W.cell? ⟨w.heap.size + 1, 3, none⟩ = some (.int .i64 0) := by rw [hW]; exact new2 rfl _ _
  have q4 : W.cell? ⟨w.heap.size + 1, 4, none⟩ = some (.bool false) := by rw [hW]; exact new2 rfl _ _
  have q5 : W.cell? ⟨w.heap.size + 2, 0, none⟩ = some (.int .i64 0) := by rw [hW]; exact new3 rfl _ _
  have q6 : W.cell? ⟨w.heap.size + 2, 1, none⟩ = some (.int .u32 0) := by rw [hW]; exact new3 rfl _ _
  have r0 : ∀ j, W.frozen? ⟨w.heap.size + 1, j, none⟩ = false := fun j => by rw [hW]; exact froz2 _ _
  have r1 : ∀ j, W.frozen? ⟨w.heap.size + 2, j, none⟩ = false := fun j => by rw [hW]; exact froz3 _ _
  clear hW
  replace c0 := hF.cell c0 id
  replace c1 := hF.cell c1 id
  replace c2 := hF.cell c2 id
  replace c3 := hF.cell c3 id
  replace c4 := hF.cell c4 id
  obtain ⟨b, hb⟩ : ∃ b, w.heap.size = b := ⟨_, rfl⟩
  have HN := Lib.hid (show ¬ b + 1 < w.heap.size ∧ ¬ b + 2 < w.heap.size by omega)
  rw [hb] at p0 p1 p2 p3 p4 p5 p6 q0 q1 q2 q3 q4 q5 q6 r0 r1 hsW ⊢
  have z1 : 1 < W.heap.size := by omega
  have z2 : b < W.heap.size := by omega
  have z3 : 2 ≤ b := by omega
  obtain ⟨s1, hs1⟩ : ∃ r, b + 1 = r := ⟨_, rfl⟩
  rw [hs1] at q0 q1 q2 q3 q4 r0 HN ⊢
  rw [show b + 2 = s1 + 1 by omega] at q5 q6 r1 HN
  obtain ⟨s2, hs2⟩ : ∃ r, s1 + 1 = r := ⟨_, rfl⟩
  rw [hs2] at q5 q6 r1 HN ⊢
  have z4 : s1 < W.heap.size := by omega
  have z5 : s2 < W.heap.size := by omega
  have z6 : s1 ≠ s2 := by omega
  have z7 : s2 ≠ s1 := by omega
  have z8 : b ≠ s1 := by omega
  have z9 : b ≠ s2 := by omega
  have z10 : (1 : Nat) ≠ s1 := by omega
  have z11 : (1 : Nat) ≠ s2 := by omega
  have z12 : 1 ≠ W.heap.size := by omega
  have z13 : b ≠ W.heap.size := by omega
  have z14 : s1 ≠ W.heap.size := by omega
  have z15 : s2 ≠ W.heap.size := by omega
  have f0 := r0 0
  have f1 := r0 1
  have f2 := r0 2
  have f3 := r0 3
  have f4 := r0 4
  have f5 := r1 0
  have f6 := r1 1
  have HF0 := Lib.hid hF
  clear hF hb hs1 hs2 hsW h0 r0 r1
  go_upto_region 2 with fail
  refine at_world' ?_
  intro V hV
  have hG : Frm W V fun _ => False := by
    rw [hV]
    repeat (first | exact Frm.refl _ _ | with_reducible refine Frm.drew ?_ | with_reducible refine Frm.alloc ?_ _ | with_reducible refine Frm.setCell ?_ (fun h => absurd h (Nat.lt_irrefl _)) _)
  have d0 : V.cell? ⟨W.heap.size, 0, none⟩ = some (.bool qi) := by subst hV; go_simp
  have d1 : V.cell? ⟨W.heap.size, 1, none⟩ = some (.int .u8 qf) := by subst hV; go_simp
  have d2 : V.cell? ⟨W.heap.size, 2, none⟩ = some (.int .u8 qt) := by subst hV; go_simp
  have d3 : V.cell? ⟨W.heap.size, 3, none⟩ = some (.int .i64 qe) := by subst hV; go_simp
  have d4 : V.cell? ⟨W.heap.size, 4, none⟩ = some (.bool qo) := by subst hV; go_simp
  have hz : W.heap.size < V.heap.size := by subst hV; simp
  clear hV
  replace p0 := hG.cell p0 id
  replace p1 := hG.cell p1 id
  replace p2 := hG.cell p2 id
  replace p3 := hG.cell p3 id
  replace p4 := hG.cell p4 id
  replace p5 := hG.cell p5 id
  replace p6 := hG.cell p6 id
  go_upto_region 3 with (go_at_call 10; refine (HM.out ⟨_, HF0.out.then_ hG⟩).mono ?_; rintro e w' ⟨rfl, hf⟩)
  have hK := hG.then_ hf
  have hz2 := hf.size
  replace d0 := hf.cell d0 id
  replace d1 := hf.cell d1 id
  replace d2 := hf.cell d2 id
  replace d3 := hf.cell d3 id
  replace d4 := hf.cell d4 id
  replace q0 := hK.cell q0 id
  replace q1 := hK.cell q1 id
  replace q2 := hK.cell q2 id
  replace q3 := hK.cell q3 id
  replace q4 := hK.cell q4 id
  replace q5 := hK.cell q5 id
  replace q6 := hK.cell q6 id
  replace f0 := (hK.frozen (p := ⟨s1, 0, none⟩) z4 id).trans f0
  replace f1 := (hK.frozen (p := ⟨s1, 1, none⟩) z4 id).trans f1
  replace f2 := (hK.frozen (p := ⟨s1, 2, none⟩) z4 id).trans f2
  replace f3 := (hK.frozen (p := ⟨s1, 3, none⟩) z4 id).trans f3
  replace f4 := (hK.frozen (p := ⟨s1, 4, none⟩) z4 id).trans f4
  replace f5 := (hK.frozen (p := ⟨s2, 0, none⟩) z5 id).trans f5
  replace f6 := (hK.frozen (p := ⟨s2, 1, none⟩) z5 id).trans f6
  obtain ⟨m, hm⟩ : ∃ m, W.heap.size = m := ⟨_, rfl⟩
  rw [hm] at d0 d1 d2 d3 d4 z14 z15 ⊢
  have y1 : m < w'.heap.size := by omega
  have y2 : s1 < w'.heap.size := by omega
  have y3 : s2 < w'.heap.size := by omega
  have HF := Lib.hid (HF0.out.then_ hK)
  clear HF0 hK hf hG hz hz2 hm c0 c1 c2 c3 c4 p0 p1 p2 p3 p4 p5 p6 z1 z2 z3 z4 z5 z8 z9 z10 z11 z12 z13
  have hbd : ∀ v a, (Instr.build 58 #[(0, Value.int .i64 t), (1, Value.int .u32 v)]).run Tryd.prog a = .ok (.agg #[.int .i64 t, .int .u32 v]) a := fun v a => by kernel_rfl
  have hfin : ∀ (W' : World) (a : Act), W'.cell? ⟨s1, 0, none⟩ = some (.bool qi) → W'.cell? ⟨s1, 1, none⟩ = some (.int .u8 qf) → W'.cell? ⟨s1, 2, none⟩ = some (.int .u8 qt) → W'.cell? ⟨s1, 3, none⟩ = some (.int .i64 qe) →
      W'.cell? ⟨s1, 4, none⟩ = some (.bool qo) → W'.cell? ⟨s2, 0, none⟩ = some (.int .i64 t) → W'.cell? ⟨s2, 1, none⟩ = some (.int .u32 th) → a.tmps[4]? = some (.pointer (some ⟨s1, 0, none⟩)) → a.tmps[5]? = some (.pointer (some ⟨s2, 0, none⟩)) →
      (results Tryd.f17 a.tmps).run Tryd.prog W' = .ok (.tuple #[.agg #[.bool qi, .int .u8 qf, .int .u8 qt, .int .i64 qe, .bool qo], thV (t, th)]) W' := fun W' a x0 x1 x2 x3 x4 x5 x6 h h' => by
    simp [results, Tryd.results17, go_sem, h, h', x0, x1, x2, x3, x4, x5, x6]
  cases qo with
  | false =>
    go_wp2_with fail
    refine at_body ?_; intro W' hW'
    have x0 : W'.cell? ⟨s1, 0, none⟩ = some (.bool qi) := by subst hW'; go_simp
    have x1 : W'.cell? ⟨s1, 1, none⟩ = some (.int .u8 qf) := by subst hW'; go_simp
    have x2 : W'.cell? ⟨s1, 2, none⟩ = some (.int .u8 qt) := by subst hW'; go_simp
    have x3 : W'.cell? ⟨s1, 3, none⟩ = some (.int .i64 qe) := by subst hW'; go_simp
    have x4 := (show W'.cell? ⟨s1, 4, none⟩ = some (.bool false) by subst hW'; go_simp)
    have x5 : W'.cell? ⟨s2, 0, none⟩ = some (.int .i64 t) := by subst hW'; go_simp
    have x6 : W'.cell? ⟨s2, 1, none⟩ = some (.int .u32 th) := by rw [HTH.out]; subst hW'; go_simp
    refine bodyPost_ret (hfin W' _ x0 x1 x2 x3 x4 x5 x6 rfl rfl) rfl ⟨rfl, ?_⟩
    rw [hW']
    repeat (first | with_reducible refine Frm.drew ?_ | with_reducible refine Frm.alloc ?_ _ | with_reducible refine Frm.setCell ?_ (fun h => absurd h HN.out.1) _ | with_reducible refine Frm.setCell ?_ (fun h => absurd h HN.out.2) _)
    exact HF.out
  | true =>
    go_wp2_with fail
    refine at_body ?_; intro W' hW'
    have x0 : W'.cell? ⟨s1, 0, none⟩ = some (.bool qi) := by subst hW'; go_simp
    have x1 : W'.cell? ⟨s1, 1, none⟩ = some (.int .u8 qf) := by subst hW'; go_simp
    have x2 : W'.cell? ⟨s1, 2, none⟩ = some (.int .u8 qt) := by subst hW'; go_simp
    have x3 : W'.cell? ⟨s1, 3, none⟩ = some (.int .i64 qe) := by subst hW'; go_simp
    have x4 := (show W'.cell? ⟨s1, 4, none⟩ = some (.bool true) by subst hW'; go_simp)
    have x5 : W'.cell? ⟨s2, 0, none⟩ = some (.int .i64 t) := by subst hW'; go_simp
    have x6 : W'.cell? ⟨s2, 1, none⟩ = some (.int .u32 th) := by rw [HTH.out]; subst hW'; go_simp
    refine bodyPost_ret (hfin W' _ x0 x1 x2 x3 x4 x5 x6 rfl rfl) rfl ⟨rfl, ?_⟩
    rw [hW']
    repeat (first | with_reducible refine Frm.drew ?_ | with_reducible refine Frm.alloc ?_ _ | with_reducible refine Frm.setCell ?_ (fun h => absurd h HN.out.1) _ | with_reducible refine Frm.setCell ?_ (fun h => absurd h HN.out.2) _)
    exact HF.out
end Go.Proofs.YtajcijocjbakbaaDoor
