import Derived.Test.YtajcijocjbakbaaDoorOwG
namespace Go.Proofs.YtajcijocjbakbaaDoor
open Go.RowKit

/-! ### may a thread do an operation -/
def canO (U : Nat → Use) (A : Nat → Ask) (l : List (Th × Value)) (t : Int) (x : OpR) : Int :=
  if mayO U x then (if (A x.k.toNat).is && (md l (t, atO U A x) != (A x.k.toNat).from_) then (A x.k.toNat).e else 0) else 1
set_option maxRecDepth 100000 in
theorem can_no (U : Nat → Use) (A : Nat → Ask) (s : Nat) (t : Int) (ht0 : 0 ≤ t) (ht1 : t < 64) (x : OpR) (k : Nat) (hk : x.k = k) (hk8 : k < 256) (hm : mayO U x = false) (w : World) (h : Tabs w U A) (h0 : 1 < w.heap.size) :
    Calls Tryd.prog 8 #[.pointer (some ⟨s, 0, none⟩), .int .i64 t, x.V] w fun e w' => e = .returned (.int .i64 1) ∧ Frm w w' fun _ => False := by
  have hM : ∀ F : { v : World // Frm w v fun _ => False }, Calls Tryd.prog 16 #[x.V] F.1 fun e w' => e = .returned (.bool false) ∧ Frm F.1 w' fun _ => False := fun F => by
    have := may_any U A x k hk hk8 F.1 (h.new_ F.2) (by have := F.2.size; omega)
    rw [hm] at this
    exact this
  have e1 : decide (t < 0) = false := by rw [decide_eq_false_iff_not]; omega
  have e2 : decide ((64 : Int) ≤ t) = false := by rw [decide_eq_false_iff_not]; omega
  obtain ⟨xk, xa, xo, xt, xfl, xfa, xg⟩ := x
  have hk : xk = k := hk
  subst hk
  have k0 : (0 : Int) ≤ (k : Int) := by omega
  have k1 : (k : Int) < 256 := by omega
  have HM := Lib.hid hM
  clear h hM h0 hm
  go_enter Tryd.func8, Tryd.ntmps8
  go_upto_region 1 with fail
  refine at_world' ?_
  intro W hW
  have hF : Frm w W fun _ => False := by rw [hW]; exact ((Frm.refl _ _).alloc _)
  have p0 : W.cell? ⟨w.heap.size, 0, none⟩ = some (.int .u8 k) := by subst hW; go_simp
  have p1 : W.cell? ⟨w.heap.size, 1, none⟩ = some (.int .i64 xa) := by subst hW; go_simp
  have p2 : W.cell? ⟨w.heap.size, 2, none⟩ = some (.int .i64 xo) := by subst hW; go_simp
  have p3 : W.cell? ⟨w.heap.size, 3, none⟩ = some (.int .i64 xt) := by subst hW; go_simp
  have p4 : W.cell? ⟨w.heap.size, 4, none⟩ = some (.bool xfl) := by subst hW; go_simp
  have p5 : W.cell? ⟨w.heap.size, 5, none⟩ = some (.bool xfa) := by subst hW; go_simp
  have p6 : W.cell? ⟨w.heap.size, 6, none⟩ = some (.int .i64 xg) := by subst hW; go_simp
  clear hW
  go_wp2_with (go_at_call 16; refine (HM.out ⟨_, hF⟩).mono ?_; rintro e w' ⟨rfl, hf⟩)
  go_ret
  exact ⟨rfl, hF.then_ hf⟩
set_option maxRecDepth 100000 in
set_option maxHeartbeats 2000000 in
theorem can_yes (U : Nat → Use) (A : Nat → Ask) (s : Nat) (g : Option Nat) (l : List (Th × Value)) (t : Int) (ht0 : 0 ≤ t) (ht1 : t < 64) (x : OpR) (k : Nat) (hk : x.k = k) (hk26 : k < 26) (hm : mayO U x = true) (w : World) (h : Tabs w U A) (h0 : 1 < w.heap.size) (hT : TabsOk U)
    (hb : Bk w s g l) : Calls Tryd.prog 8 #[.pointer (some ⟨s, 0, none⟩), .int .i64 t, x.V] w fun e w' => e = .returned (.int .i64 (if (A k).is && (md l (t, atO U A x) != (A k).from_) then (A k).e else 0)) ∧ Frm w w' fun _ => False := by
  have hM : ∀ F : { v : World // Frm w v fun _ => False }, Calls Tryd.prog 16 #[x.V] F.1 fun e w' => e = .returned (.bool true) ∧ Frm F.1 w' fun _ => False := fun F => by
    have := may_any U A x k hk (by omega) F.1 (h.new_ F.2) (by have := F.2.size; omega)
    rw [hm] at this
    exact this
  have hO : ∀ F : { v : World // Frm w v fun _ => False }, Calls Tryd.prog 17 #[.int .i64 t, x.V] F.1 fun e w' => e = .returned (.tuple #[.agg #[.bool (A k).is, .int .u8 (A k).from_, .int .u8 (A k).to_, .int .i64 (A k).e, .bool (A k).other], thV (t, atO U A x)]) ∧ Frm F.1 w' fun _ => False := fun F =>
    of_any U A x k hk hk26 t F.1 (h.new_ F.2) (by have := F.2.size; omega) hT
  obtain ⟨a, ha⟩ : ∃ a, atO U A x = a := ⟨_, rfl⟩
  rw [ha] at hO ⊢
  obtain ⟨⟨qi, qf, qt, qe, qo⟩, hu⟩ : ∃ u, A k = u := ⟨_, rfl⟩
  rw [hu] at hO ⊢
  have hL : ∀ F : { v : World // Frm w v fun _ => False }, (Instr.lookup 51 (.map g) (.agg #[.int .i64 t, .int .u32 a]) false).run Tryd.prog F.1 = .ok (.int .u8 (md l (t, a))) F.1 := fun F => (hb.new_ F.2).lookup (t, a)
  have hc := hb.cell
  simp only
  obtain ⟨v, hv⟩ : ∃ v, md l (t, a) = v := ⟨_, rfl⟩
  rw [hv] at hL ⊢
  obtain ⟨b1, hb1⟩ : ∃ b, (v != qf) = b := ⟨_, rfl⟩
  rw [hb1]
  have e1 : decide (t < 0) = false := by rw [decide_eq_false_iff_not]; omega
  have e2 : decide ((64 : Int) ≤ t) = false := by rw [decide_eq_false_iff_not]; omega
  obtain ⟨xk, xa, xo, xt, xfl, xfa, xg⟩ := x
  have hk : xk = k := hk
  subst hk
  have k0 : (0 : Int) ≤ (k : Int) := by omega
  have k1 : (k : Int) < 256 := by omega
  have HM := Lib.hid hM
  have HO := Lib.hid hO
  have HL := Lib.hid hL
  have hlt := hb.lt
  clear h hM h0 hm hT hO hL hu ha hv hb
  go_enter Tryd.func8, Tryd.ntmps8
  go_upto_region 1 with fail
  refine at_world' ?_
  intro W hW
  have hF : Frm w W fun _ => False := by rw [hW]; exact ((Frm.refl _ _).alloc _)
  have p0 : W.cell? ⟨w.heap.size, 0, none⟩ = some (.int .u8 k) := by subst hW; go_simp
  have p1 : W.cell? ⟨w.heap.size, 1, none⟩ = some (.int .i64 xa) := by subst hW; go_simp
  have p2 : W.cell? ⟨w.heap.size, 2, none⟩ = some (.int .i64 xo) := by subst hW; go_simp
  have p3 : W.cell? ⟨w.heap.size, 3, none⟩ = some (.int .i64 xt) := by subst hW; go_simp
  have p4 : W.cell? ⟨w.heap.size, 4, none⟩ = some (.bool xfl) := by subst hW; go_simp
  have p5 : W.cell? ⟨w.heap.size, 5, none⟩ = some (.bool xfa) := by subst hW; go_simp
  have p6 : W.cell? ⟨w.heap.size, 6, none⟩ = some (.int .i64 xg) := by subst hW; go_simp
  clear hW
  replace hc := hF.cell hc id
  go_upto_region 5 with (go_at_call 16; refine (HM.out ⟨_, hF⟩).mono ?_; rintro e w' ⟨rfl, hf⟩)
  replace hF := hF.then_ hf
  replace p0 := hf.cell p0 id
  replace p1 := hf.cell p1 id
  replace p2 := hf.cell p2 id
  replace p3 := hf.cell p3 id
  replace p4 := hf.cell p4 id
  replace p5 := hf.cell p5 id
  replace p6 := hf.cell p6 id
  replace hc := hf.cell hc id
  clear hf
  go_upto_region 6 with (go_at_call 17; refine (HO.out ⟨_, hF⟩).mono ?_; rintro e w2 ⟨rfl, hf⟩)
  refine at_world' ?_
  intro V hV
  have hG : Frm w2 V fun _ => False := by
    rw [hV]
    repeat (first | exact Frm.refl _ _ | with_reducible refine Frm.drew ?_ | with_reducible refine Frm.alloc ?_ _ | with_reducible refine Frm.setCell ?_ (fun h => absurd h (by simp)) _)
  have c0 : V.cell? ⟨w2.heap.size, 0, none⟩ = some (.bool qi) := by subst hV; go_simp
  have c1 : V.cell? ⟨w2.heap.size, 1, none⟩ = some (.int .u8 qf) := by subst hV; go_simp
  have c3 : V.cell? ⟨w2.heap.size, 3, none⟩ = some (.int .i64 qe) := by subst hV; go_simp
  have d0 : V.cell? ⟨w2.heap.size + 1, 0, none⟩ = some (.int .i64 t) := by subst hV; go_simp
  have d1 : V.cell? ⟨w2.heap.size + 1, 1, none⟩ = some (.int .u32 a) := by subst hV; go_simp
  have hFV := (hF.then_ hf).then_ hG
  replace hc := (hf.then_ hG).cell hc id
  clear hV p0 p1 p2 p3 p4 p5 p6 HM HO hf hG
  have hL : ∀ F : Grown V, (Instr.lookup 51 (.map g) (.agg #[.int .i64 t, .int .u32 a]) false).run Tryd.prog F.1 = .ok (.int .u8 v) F.1 := fun F => HL.out ⟨F.1, hFV.then_ F.2⟩
  have HV := Lib.hid hFV
  clear hFV hF HL
  replace hc := Grown.cell hc
  replace c0 := Grown.cell c0
  replace c1 := Grown.cell c1
  replace d0 := Grown.cell d0
  replace d1 := Grown.cell d1
  cases qi with
  | false =>
    refine wp_region_grown V (Frm.refl _ _) (by kernel_rfl) (by kernel_rfl) ?_
    repeat (go_big_quiet_step (fail))
    refine wpQuiet_nil ?_
    intro wq hq
    go_wp2_with fail
    go_ret
    exact ⟨by simp, HV.out.then_ hq⟩
  | true =>
    cases b1 with
    | false =>
      refine wp_region_grown V (Frm.refl _ _) (by kernel_rfl) (by kernel_rfl) ?_
      repeat (go_big_quiet_step (fail))
      refine wpQuiet_nil ?_
      intro wq hq
      go_wp2_with fail
      go_ret
      exact ⟨by simp, HV.out.then_ hq⟩
    | true =>
      refine wp_region_grown V (Frm.refl _ _) (by kernel_rfl) (by kernel_rfl) ?_
      repeat (go_big_quiet_step (fail))
      refine wpQuiet_nil ?_
      intro wq hq
      have c3q := hq.cell c3 id
      have zq := hq.size
      go_wp2_with fail
      go_ret
      exact ⟨by simp, HV.out.then_ hq⟩
theorem can_any (U : Nat → Use) (A : Nat → Ask) (s : Nat) (g : Option Nat) (l : List (Th × Value)) (t : Int) (ht0 : 0 ≤ t) (ht1 : t < 64) (x : OpR) (k : Nat) (hk : x.k = k) (hk8 : k < 256) (w : World) (h : Tabs w U A) (h0 : 1 < w.heap.size) (hT : TabsOk U)
    (hb : Bk w s g l) : Calls Tryd.prog 8 #[.pointer (some ⟨s, 0, none⟩), .int .i64 t, x.V] w fun e w' => e = .returned (.int .i64 (canO U A l t x)) ∧ Frm w w' fun _ => False := by
  by_cases hm : mayO U x = true
  · unfold canO
    rw [if_pos hm, hk, Int.toNat_natCast]
    exact can_yes U A s g l t ht0 ht1 x k hk (by have := (mayO_bounds hm).1; omega) hm w h h0 hT hb
  · unfold canO
    rw [if_neg hm]
    exact can_no U A s t ht0 ht1 x k hk hk8 (by simpa using hm) w h h0
end Go.Proofs.YtajcijocjbakbaaDoor
