import Derived.Test.YtmjpaaippilioaaDoorPgT
import Derived.BigRegion
import Derived.Deep.RegionHeld3
import Derived.Laws.BitsAll
import Derived.Laws.Shifts
namespace Go.Proofs.YtmjpaaippilioaaDoor
open Go.RowKit

/-! ### bytes -/
theorem w26 : ∀ b : Nat, b < 256 → IntKind.u8.wrap ((IntKind.i64.wrap (b : Int)).tmod 26) = ((b % 26 : Nat) : Int) := by decide +kernel
theorem a7 : ∀ b : Nat, b < 256 → IntKind.i64.wrap (bits BinOp.and IntKind.u8 (b : Int) 7) = ((b % 8 : Nat) : Int) := by decide +kernel
theorem s7 : ∀ b : Nat, b < 256 → IntKind.i64.wrap (bits BinOp.and IntKind.u8 ((b : Int) / 8) 7) = ((b / 8 % 8 : Nat) : Int) := by decide +kernel
theorem wb : ∀ b : Nat, b < 256 → IntKind.i64.wrap (b : Int) = (b : Int) := by decide +kernel
theorem f6' : ∀ b : Nat, b < 256 → (bits BinOp.and IntKind.u8 ((b : Int) / 64) 1 == 1) = (b / 64 % 2 == 1) := by decide +kernel
theorem f7' : ∀ b : Nat, b < 256 → ((b : Int) / 128 == 1) = (b / 128 == 1) := by decide +kernel
/-! ### an operation of four bytes -/
def rawO (b0 b1 b2 b3 : Nat) : OpR := ⟨(b0 % 26 : Nat), (b1 % 8 : Nat), (b1 / 8 % 8 : Nat), if b2 = 255 then -1 else (b2 : Int), b1 / 64 % 2 == 1, b1 / 128 == 1, (b3 : Nat)⟩
def parsedO (b0 b1 b2 b3 : Nat) : OpR := plainO Ut (rawO b0 b1 b2 b3)
set_option maxRecDepth 100000 in
set_option maxHeartbeats 4000000 in
theorem parsed_any (g off c b0 b1 b2 b3 : Nat) (w : World) (hT : Tabs w Ut) (h4 : 4 < w.heap.size) (h0 : b0 ≤ 255) (h1 : b1 ≤ 255) (h2 : b2 ≤ 255) (h3 : b3 ≤ 255)
    (c0 : w.cell? ⟨g, off, none⟩ = some (.int .u8 (b0 : Int))) (c1 : w.cell? ⟨g, off + 1, none⟩ = some (.int .u8 (b1 : Int))) (c2 : w.cell? ⟨g, off + 2, none⟩ = some (.int .u8 (b2 : Int))) (c3 : w.cell? ⟨g, off + 3, none⟩ = some (.int .u8 (b3 : Int))) :
    Calls Tryd.prog 69 #[.slice (some ⟨g, off, none⟩) 4 c] w fun e w' => e = .returned (parsedO b0 b1 b2 b3).V ∧ Frm w w' fun _ => False := by
  have HP := Lib.hid fun (v : World) (hv : Frm w v fun _ => False) => plain_any Ut (rawO b0 b1 b2 b3) (b0 % 26) rfl (by omega) (by show (0 : Int) ≤ (b3 : Int); omega) v (hT.new_ hv) (by have := hv.size; omega)
  have z0 : (0 : Int) ≤ (b0 : Int) := by omega
  have z1 : (b0 : Int) ≤ 255 := by omega
  have z2 : (0 : Int) ≤ (b1 : Int) := by omega
  have z3 : (b1 : Int) ≤ 255 := by omega
  have z4 : (0 : Int) ≤ (b2 : Int) := by omega
  have z5 : (b2 : Int) ≤ 255 := by omega
  have z6 : (0 : Int) ≤ (b3 : Int) := by omega
  have z7 : (b3 : Int) ≤ 255 := by omega
  have y0 : (b0 : Int).tmod 26 = ((b0 % 26 : Nat) : Int) := by rw [Int.tmod_eq_emod_of_nonneg (by omega)]; rfl
  have hgw := World.block_lt_of_cell? w _ c0
  have hgw : g < w.heap.size := hgw
  clear hT
  go_enter Tryd.func69, Tryd.ntmps69
  go_upto_region 1 with fail
  refine at_world' ?_
  intro W hW
  have hF : Frm w W fun _ => False := by rw [hW]; exact (Frm.refl _ _).alloc _
  replace c0 := hF.cell c0 id
  replace c1 := hF.cell c1 id
  replace c2 := hF.cell c2 id
  replace c3 := hF.cell c3 id
  have q0 : W.cell? ⟨w.heap.size, 0, none⟩ = some (.int .u8 0) := by subst hW; go_simp
  have q1 : W.cell? ⟨w.heap.size, 1, none⟩ = some (.int .i64 0) := by subst hW; go_simp
  have q2 : W.cell? ⟨w.heap.size, 2, none⟩ = some (.int .i64 0) := by subst hW; go_simp
  have q3 : W.cell? ⟨w.heap.size, 3, none⟩ = some (.int .i64 0) := by subst hW; go_simp
  have q4 : W.cell? ⟨w.heap.size, 4, none⟩ = some (.bool false) := by subst hW; go_simp
  have q5 : W.cell? ⟨w.heap.size, 5, none⟩ = some (.bool false) := by subst hW; go_simp
  have q6 : W.cell? ⟨w.heap.size, 6, none⟩ = some (.int .i64 0) := by subst hW; go_simp
  have f0 : W.frozen? ⟨w.heap.size, 0, none⟩ = false := by subst hW; go_simp
  have f1 : W.frozen? ⟨w.heap.size, 1, none⟩ = false := by subst hW; go_simp
  have f2 : W.frozen? ⟨w.heap.size, 2, none⟩ = false := by subst hW; go_simp
  have f3 : W.frozen? ⟨w.heap.size, 3, none⟩ = false := by subst hW; go_simp
  have f4 : W.frozen? ⟨w.heap.size, 4, none⟩ = false := by subst hW; go_simp
  have f5 : W.frozen? ⟨w.heap.size, 5, none⟩ = false := by subst hW; go_simp
  have f6 : W.frozen? ⟨w.heap.size, 6, none⟩ = false := by subst hW; go_simp
  have hsW : W.heap.size = w.heap.size + 1 := by subst hW; simp
  clear hW
  obtain ⟨b, hb⟩ : ∃ b, w.heap.size = b := ⟨_, rfl⟩
  have HNB := Lib.hid (show ¬ b < w.heap.size by omega)
  rw [hb] at q0 q1 q2 q3 q4 q5 q6 f0 f1 f2 f3 f4 f5 f6 hsW hgw ⊢
  have hbW : b < W.heap.size := by omega
  have hbN : b ≠ W.heap.size := by omega
  have hgN : g ≠ W.heap.size := by omega
  have hgW : g < W.heap.size := by omega
  have hgb : g ≠ b := by omega
  have HF := Lib.hid hF
  have HQ := Lib.hid (And.intro q0 (And.intro q1 (And.intro q2 (And.intro q3 (And.intro q4 (And.intro q5 q6))))))
  have HFZ := Lib.hid (And.intro f0 (And.intro f1 (And.intro f2 (And.intro f3 (And.intro f4 (And.intro f5 f6))))))
  have HBN := Lib.hid (And.intro hbW (And.intro hbN hgb))
  clear hb hsW hF h4 h0 h1 h2 h3 q0 q1 q2 q3 q4 q5 q6 f0 f1 f2 f3 f4 f5 f6 hbW hbN hgb hgw
  go_region_held3 (fun w' => w'.cell? ⟨g, off, none⟩ = some (.int .u8 (b0 : Int)) ∧ w'.cell? ⟨g, off + 1, none⟩ = some (.int .u8 (b1 : Int)) ∧ w'.cell? ⟨g, off + 2, none⟩ = some (.int .u8 (b2 : Int)) ∧ w'.cell? ⟨g, off + 3, none⟩ = some (.int .u8 (b3 : Int))) (first | assumption | go_keep | (refine ⟨?_, ?_, ?_, ?_⟩ <;> first | assumption | go_keep)) (first | fail | fail)
  rw [w26 b0 (by omega), a7 b1 (by omega), s7 b1 (by omega), wb b2 (by omega), f6' b1 (by omega), f7' b1 (by omega), wb b3 (by omega)]
  go_upto_region 2 with fail
  refine at_world' ?_
  intro V hV
  have hG : Frm W V fun _ => False := by rw [hV]; exact ((Frm.refl _ _).alloc _).drew
  have r0 : V.cell? ⟨W.heap.size, 0, none⟩ = some (.int .u8 ((b0 % 26 : Nat) : Int)) := by subst hV; go_simp
  have r1 : V.cell? ⟨W.heap.size, 1, none⟩ = some (.int .i64 ((b1 % 8 : Nat) : Int)) := by subst hV; go_simp
  have r2 : V.cell? ⟨W.heap.size, 2, none⟩ = some (.int .i64 ((b1 / 8 % 8 : Nat) : Int)) := by subst hV; go_simp
  have r3 : V.cell? ⟨W.heap.size, 3, none⟩ = some (.int .i64 (b2 : Int)) := by subst hV; go_simp
  have r4 : V.cell? ⟨W.heap.size, 4, none⟩ = some (.bool (b1 / 64 % 2 == 1)) := by subst hV; go_simp
  have r5 : V.cell? ⟨W.heap.size, 5, none⟩ = some (.bool (b1 / 128 == 1)) := by subst hV; go_simp
  have r6 : V.cell? ⟨W.heap.size, 6, none⟩ = some (.int .i64 (b3 : Int)) := by subst hV; go_simp
  have rf : V.frozen? ⟨W.heap.size, 3, none⟩ = false := by subst hV; go_simp
  have hzV : W.heap.size < V.heap.size := by subst hV; simp
  obtain ⟨⟨yk, ya, yo, yt, yfl, yfa, yg⟩, hY⟩ : ∃ Y, parsedO b0 b1 b2 b3 = Y := ⟨_, rfl⟩
  have hPY : ∀ v : World, (Frm w v fun _ => False) → Calls Tryd.prog 74 #[(rawO b0 b1 b2 b3).V] v fun e w' => e = .returned (.agg #[.int .u8 yk, .int .i64 ya, .int .i64 yo, .int .i64 yt, .bool yfl, .bool yfa, .int .i64 yg]) ∧ Frm v w' fun _ => False := fun v hv => by
    have := HP.out v hv
    unfold parsedO at hY
    rw [hY] at this
    exact this
  have HPY := Lib.hid hPY
  have HYE := Lib.hid hY
  clear hV hPY hY c0 c1 c2 c3 HP
  by_cases h255 : b2 = 255
  · have e1 : ((b2 : Int) == 255) = true := by rw [beq_iff_eq]; omega
    have hraw : rawO b0 b1 b2 b3 = ⟨((b0 % 26 : Nat) : Int), ((b1 % 8 : Nat) : Int), ((b1 / 8 % 8 : Nat) : Int), (-1), b1 / 64 % 2 == 1, b1 / 128 == 1, (b3 : Int)⟩ := by unfold rawO; rw [if_pos h255]
    have hP2 : ∀ v : World, (Frm w v fun _ => False) → Calls Tryd.prog 74 #[.agg #[.int .u8 ((b0 % 26 : Nat) : Int), .int .i64 ((b1 % 8 : Nat) : Int), .int .i64 ((b1 / 8 % 8 : Nat) : Int), .int .i64 (-1), .bool (b1 / 64 % 2 == 1), .bool (b1 / 128 == 1), .int .i64 (b3 : Int)]] v fun e w' => e = .returned (.agg #[.int .u8 yk, .int .i64 ya, .int .i64 yo, .int .i64 yt, .bool yfl, .bool yfa, .int .i64 yg]) ∧ Frm v w' fun _ => False := fun v hv => by
      have := HPY.out v hv
      rw [hraw] at this
      exact this
    have HP2 := Lib.hid hP2
    clear hP2 hraw h255 HPY
    go_upto_region 4 with fail
    refine at_world' ?_
    intro X hX
    have hGX : Frm W X fun _ => False := by
      rw [hX]
      repeat (first | exact hG | with_reducible refine Frm.setCell ?_ (fun h => absurd h (Nat.lt_irrefl _)) _)
    have s0 : X.cell? ⟨W.heap.size, 0, none⟩ = some (.int .u8 ((b0 % 26 : Nat) : Int)) := by subst hX; go_simp
    have s1 : X.cell? ⟨W.heap.size, 1, none⟩ = some (.int .i64 ((b1 % 8 : Nat) : Int)) := by subst hX; go_simp
    have s2 : X.cell? ⟨W.heap.size, 2, none⟩ = some (.int .i64 ((b1 / 8 % 8 : Nat) : Int)) := by subst hX; go_simp
    have s3 : X.cell? ⟨W.heap.size, 3, none⟩ = some (.int .i64 (-1)) := by subst hX; go_simp
    have s4 : X.cell? ⟨W.heap.size, 4, none⟩ = some (.bool (b1 / 64 % 2 == 1)) := by subst hX; go_simp
    have s5 : X.cell? ⟨W.heap.size, 5, none⟩ = some (.bool (b1 / 128 == 1)) := by subst hX; go_simp
    have s6 : X.cell? ⟨W.heap.size, 6, none⟩ = some (.int .i64 (b3 : Int)) := by subst hX; go_simp
    clear hX r0 r1 r2 r3 r4 r5 r6 rf e1
    go_wp2_with (go_at_call 74; refine (HP2.out _ (HF.out.then_ hGX)).mono ?_; rintro e w7 ⟨rfl, hf⟩; have hK := hGX.then_ hf; have q0 := hK.cell HQ.out.1 id; have q1 := hK.cell HQ.out.2.1 id; have q2 := hK.cell HQ.out.2.2.1 id; have q3 := hK.cell HQ.out.2.2.2.1 id; have q4 := hK.cell HQ.out.2.2.2.2.1 id; have q5 := hK.cell HQ.out.2.2.2.2.2.1 id; have q6 := hK.cell HQ.out.2.2.2.2.2.2 id; have g0 := (hK.frozen (p := ⟨b, 0, none⟩) HBN.out.1 id).trans HFZ.out.1; have g1 := (hK.frozen (p := ⟨b, 1, none⟩) HBN.out.1 id).trans HFZ.out.2.1; have g2 := (hK.frozen (p := ⟨b, 2, none⟩) HBN.out.1 id).trans HFZ.out.2.2.1; have g3 := (hK.frozen (p := ⟨b, 3, none⟩) HBN.out.1 id).trans HFZ.out.2.2.2.1; have g4 := (hK.frozen (p := ⟨b, 4, none⟩) HBN.out.1 id).trans HFZ.out.2.2.2.2.1; have g5 := (hK.frozen (p := ⟨b, 5, none⟩) HBN.out.1 id).trans HFZ.out.2.2.2.2.2.1; have g6 := (hK.frozen (p := ⟨b, 6, none⟩) HBN.out.1 id).trans HFZ.out.2.2.2.2.2.2; have HFR := Lib.hid (HF.out.then_ hK); clear hK hf)
    refine at_body ?_
    intro W' hW'
    have t0 : W'.cell? ⟨b, 0, none⟩ = some (.int .u8 yk) := by subst hW'; go_simp
    have t1 : W'.cell? ⟨b, 1, none⟩ = some (.int .i64 ya) := by subst hW'; go_simp
    have t2 : W'.cell? ⟨b, 2, none⟩ = some (.int .i64 yo) := by subst hW'; go_simp
    have t3 : W'.cell? ⟨b, 3, none⟩ = some (.int .i64 yt) := by subst hW'; go_simp
    have t4 : W'.cell? ⟨b, 4, none⟩ = some (.bool yfl) := by subst hW'; go_simp
    have t5 : W'.cell? ⟨b, 5, none⟩ = some (.bool yfa) := by subst hW'; go_simp
    have t6 : W'.cell? ⟨b, 6, none⟩ = some (.int .i64 yg) := by subst hW'; go_simp
    refine bodyPost_ret (v := OpR.V ⟨yk, ya, yo, yt, yfl, yfa, yg⟩) (by simp [results, Tryd.results69, go_sem, t0, t1, t2, t3, t4, t5, t6]) rfl ⟨by rw [HYE.out], ?_⟩
    rw [hW']
    repeat (first | with_reducible refine Frm.drew ?_ | with_reducible refine Frm.alloc ?_ _ | with_reducible refine Frm.setCell ?_ (fun h => absurd h HNB.out) _)
    exact HFR.out
  · have e1 : ((b2 : Int) == 255) = false := by rw [beq_eq_false_iff_ne]; omega
    have hraw : rawO b0 b1 b2 b3 = ⟨((b0 % 26 : Nat) : Int), ((b1 % 8 : Nat) : Int), ((b1 / 8 % 8 : Nat) : Int), (b2 : Int), b1 / 64 % 2 == 1, b1 / 128 == 1, (b3 : Int)⟩ := by unfold rawO; rw [if_neg h255]
    have hP2 : ∀ v : World, (Frm w v fun _ => False) → Calls Tryd.prog 74 #[.agg #[.int .u8 ((b0 % 26 : Nat) : Int), .int .i64 ((b1 % 8 : Nat) : Int), .int .i64 ((b1 / 8 % 8 : Nat) : Int), .int .i64 (b2 : Int), .bool (b1 / 64 % 2 == 1), .bool (b1 / 128 == 1), .int .i64 (b3 : Int)]] v fun e w' => e = .returned (.agg #[.int .u8 yk, .int .i64 ya, .int .i64 yo, .int .i64 yt, .bool yfl, .bool yfa, .int .i64 yg]) ∧ Frm v w' fun _ => False := fun v hv => by
      have := HPY.out v hv
      rw [hraw] at this
      exact this
    have HP2 := Lib.hid hP2
    clear hP2 hraw h255 HPY
    go_upto_region 4 with fail
    refine at_world' ?_
    intro X hX
    have hGX : Frm W X fun _ => False := by
      rw [hX]
      repeat (first | exact hG | with_reducible refine Frm.setCell ?_ (fun h => absurd h (Nat.lt_irrefl _)) _)
    have s0 := r0
    have s1 := r1
    have s2 := r2
    have s3 := r3
    have s4 := r4
    have s5 := r5
    have s6 := r6
    rw [← hX] at s0
    rw [← hX] at s1
    rw [← hX] at s2
    rw [← hX] at s3
    rw [← hX] at s4
    rw [← hX] at s5
    rw [← hX] at s6
    clear hX r0 r1 r2 r3 r4 r5 r6 rf e1
    go_wp2_with (go_at_call 74; refine (HP2.out _ (HF.out.then_ hGX)).mono ?_; rintro e w7 ⟨rfl, hf⟩; have hK := hGX.then_ hf; have q0 := hK.cell HQ.out.1 id; have q1 := hK.cell HQ.out.2.1 id; have q2 := hK.cell HQ.out.2.2.1 id; have q3 := hK.cell HQ.out.2.2.2.1 id; have q4 := hK.cell HQ.out.2.2.2.2.1 id; have q5 := hK.cell HQ.out.2.2.2.2.2.1 id; have q6 := hK.cell HQ.out.2.2.2.2.2.2 id; have g0 := (hK.frozen (p := ⟨b, 0, none⟩) HBN.out.1 id).trans HFZ.out.1; have g1 := (hK.frozen (p := ⟨b, 1, none⟩) HBN.out.1 id).trans HFZ.out.2.1; have g2 := (hK.frozen (p := ⟨b, 2, none⟩) HBN.out.1 id).trans HFZ.out.2.2.1; have g3 := (hK.frozen (p := ⟨b, 3, none⟩) HBN.out.1 id).trans HFZ.out.2.2.2.1; have g4 := (hK.frozen (p := ⟨b, 4, none⟩) HBN.out.1 id).trans HFZ.out.2.2.2.2.1; have g5 := (hK.frozen (p := ⟨b, 5, none⟩) HBN.out.1 id).trans HFZ.out.2.2.2.2.2.1; have g6 := (hK.frozen (p := ⟨b, 6, none⟩) HBN.out.1 id).trans HFZ.out.2.2.2.2.2.2; have HFR := Lib.hid (HF.out.then_ hK); clear hK hf)
    refine at_body ?_
    intro W' hW'
    have t0 : W'.cell? ⟨b, 0, none⟩ = some (.int .u8 yk) := by subst hW'; go_simp
    have t1 : W'.cell? ⟨b, 1, none⟩ = some (.int .i64 ya) := by subst hW'; go_simp
    have t2 : W'.cell? ⟨b, 2, none⟩ = some (.int .i64 yo) := by subst hW'; go_simp
    have t3 : W'.cell? ⟨b, 3, none⟩ = some (.int .i64 yt) := by subst hW'; go_simp
    have t4 : W'.cell? ⟨b, 4, none⟩ = some (.bool yfl) := by subst hW'; go_simp
    have t5 : W'.cell? ⟨b, 5, none⟩ = some (.bool yfa) := by subst hW'; go_simp
    have t6 : W'.cell? ⟨b, 6, none⟩ = some (.int .i64 yg) := by subst hW'; go_simp
    refine bodyPost_ret (v := OpR.V ⟨yk, ya, yo, yt, yfl, yfa, yg⟩) (by simp [results, Tryd.results69, go_sem, t0, t1, t2, t3, t4, t5, t6]) rfl ⟨by rw [HYE.out], ?_⟩
    rw [hW']
    repeat (first | with_reducible refine Frm.drew ?_ | with_reducible refine Frm.alloc ?_ _ | with_reducible refine Frm.setCell ?_ (fun h => absurd h HNB.out) _)
    exact HFR.out
end Go.Proofs.YtmjpaaippilioaaDoor
