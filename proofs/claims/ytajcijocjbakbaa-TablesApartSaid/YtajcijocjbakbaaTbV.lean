import Derived.Test.YtajcijocjbakbaaTbU
import Derived.Deep.RegionHeld3
namespace Go.Proofs.Ytajcijocjbakbaa
open Go.RowKit

/-! ### Apart -/
theorem at_worldC {P : Program} {f : FuncId} {args : Array Value} {Q : Ending → World → Prop} {w : World} (h : ∀ W, W = w → Calls P f args W Q) : Calls P f args w Q := h w rfl
set_option maxRecDepth 100000 in
theorem apart_long (z0 z1 z2 z3 : Int) (A : Option Addr) (n c : Nat) (ta tf : Int) (w : World) (hn : 60 < n) :
    Calls Try.prog 6 #[.agg #[.int .u8 z0, .int .u8 z1, .int .u8 z2, .int .u8 z3], .slice A n c, tmV ta tf] w fun e w' => e = .returned (.bool true) ∧ Frm w w' fun _ => False := by
  have h1 : (60 : Int) < (n : Int) := by omega
  have h2 : decide ((60 : Int) < (n : Int)) = true := by rw [decide_eq_true_eq]; exact h1
  go_enter Try.func6, Try.ntmps6
  go_wp2_with (go_at_call 7; refine (lives_any _).mono ?_; rintro _ w' ⟨rfl, hf⟩; have HL2 := Lib.hid (((((Frm.refl w fun _ => False).alloc _).alloc _)).then_ hf); clear hf)
  go_ret
  exact ⟨rfl, HL2.out⟩
theorem neq43 (t k z : Int) (w : World) : (binOp .neq 43 (.agg #[.int .i64 t, .int .u32 k, .int .u64 z]) (.agg #[.int .i64 t, .int .u32 k, .int .u64 z])).run Try.prog w = .ok (.bool false) w := by
  rw [run_neq_struct, run_equalIn_agg _ 9999 43 _ _ (by kernel_rfl) (by kernel_rfl)]
  simp [Program.fieldsOf, Try.underlying43, Op.eqFields, go_sem]
theorem eqg43 (op : BinOp) (x y : Operand) (a b : Array Value) (w : World) : (eqGuard op 43 x y (.agg a) (.agg b)).run Try.prog w = .ok () w :=
  run_eqGuard_agg w op 43 x y _ _ (by kernel_rfl)
/-- The law's boxes. -/
structure Bx (V : World) (b x8 x10 : Nat) (ta tf d1 i1 d2 i2 o1 o2 : Int) : Prop where
  t0 : V.cell? ⟨b + 1, 0, none⟩ = some (.int .u64 ta)
  t1 : V.cell? ⟨b + 1, 1, none⟩ = some (.int .u64 tf)
  p0 : V.cell? ⟨x8, 0, none⟩ = some (.int .i64 d1)
  p1 : V.cell? ⟨x8, 1, none⟩ = some (.int .i64 i1)
  q0 : V.cell? ⟨x8 + 1, 0, none⟩ = some (.int .i64 d2)
  q1 : V.cell? ⟨x8 + 1, 1, none⟩ = some (.int .i64 i2)
  o0 : V.cell? ⟨x10, 0, none⟩ = some (.int .u64 o1)
  o1 : V.cell? ⟨x10, 1, none⟩ = some (.int .u64 o2)
theorem Bx.frm {V V' : World} {b x8 x10 : Nat} {ta tf d1 i1 d2 i2 o1 o2 : Int} {S : Nat → Prop} (h : Bx V b x8 x10 ta tf d1 i1 d2 i2 o1 o2) (hf : Frm V V' S) (n0 : ¬ S (b + 1)) (n1 : ¬ S x8) (n2 : ¬ S (x8 + 1)) (n3 : ¬ S x10) : Bx V' b x8 x10 ta tf d1 i1 d2 i2 o1 o2 :=
  ⟨hf.cell h.t0 n0, hf.cell h.t1 n0, hf.cell h.p0 n1, hf.cell h.p1 n1, hf.cell h.q0 n2, hf.cell h.q1 n2, hf.cell h.o0 n3, hf.cell h.o1 n3⟩
theorem Bx.new_ {V V' : World} {b x8 x10 : Nat} {ta tf d1 i1 d2 i2 o1 o2 : Int} (h : Bx V b x8 x10 ta tf d1 i1 d2 i2 o1 o2) (hf : Frm V V' fun _ => False) : Bx V' b x8 x10 ta tf d1 i1 d2 i2 o1 o2 := h.frm hf id id id id
def av1 : List Vt := vgrow (vnew 3) 2 3 4
theorem av1_at {d i : Int} (hd : d = 2 ∨ d = 3) (h0 : 0 ≤ i) (h4 : i < 4) : ∃ k, vk av1 d i = some k ∧ k.2.2 = [] := by
  have hi : i = 0 ∨ i = 1 ∨ i = 2 ∨ i = 3 := by omega
  rcases hd with rfl | rfl
  · refine ⟨(3, 3, []), ?_, rfl⟩
    rcases hi with rfl | rfl | rfl | rfl <;> decide +kernel
  · refine ⟨(4, 4, []), ?_, rfl⟩
    rcases hi with rfl | rfl | rfl | rfl <;> decide +kernel
structure Apf (d1 i1 d2 i2 ta tf : Int) (xs : List En) (v2 v3 v4 : List Vt) : Prop where
  e2 : v2 = vputq av1 d1 i1 xs
  e3 : v3 = vputt v2 d1 i1 ta tf
  e4 : v4 = vputq v3 d1 i1 []
  s1 : (vk av1 d1 i1).isSome = true
  s2 : (vk v2 d1 i1).isSome = true
  s3 : (vk v3 d1 i1).isSome = true
  q3 : vq v3 d1 i1 = xs
  t3 : vtm v3 d1 i1 = (ta, tf)
  qb : ¬ (d1 = d2 ∧ i1 = i2) → vq v3 d2 i2 = [] ∧ vtm v3 d2 i2 = vtm av1 d2 i2
  q4 : vq v4 d1 i1 = []
  t4 : vtm v4 d1 i1 = (ta, tf)
  f2 : VFew v2
  f3 : VFew v3
  f4 : VFew v4
theorem apf {d1 i1 d2 i2 : Int} (ta tf : Int) (xs : List En) (hx : xs.length ≤ 60) (h1 : d1 = 2 ∨ d1 = 3) (h2 : 0 ≤ i1 ∧ i1 < 4) (h3 : d2 = 2 ∨ d2 = 3) (h4 : 0 ≤ i2 ∧ i2 < 4) :
    Apf d1 i1 d2 i2 ta tf xs (vputq av1 d1 i1 xs) (vputt (vputq av1 d1 i1 xs) d1 i1 ta tf) (vputq (vputt (vputq av1 d1 i1 xs) d1 i1 ta tf) d1 i1 []) := by
  obtain ⟨k, hk, hq⟩ := av1_at h1 h2.1 h2.2
  obtain ⟨k', hk', hq'⟩ := av1_at h3 h4.1 h4.2
  have a2 := vputq_at hk xs d1 i1
  rw [if_pos ⟨rfl, rfl⟩] at a2
  have a3 := vputt_at a2 ta tf d1 i1
  rw [if_pos ⟨rfl, rfl⟩] at a3
  have a4 := vputq_at a3 [] d1 i1
  rw [if_pos ⟨rfl, rfl⟩] at a4
  have f1 : VFewN av1 0 := (VFewN.new_ 3).grow 2 3 4
  have f2 := f1.putq d1 i1 xs hx
  have f3 := f2.putt d1 i1 ta tf
  have f4 := f3.putq d1 i1 [] (Nat.zero_le 0)
  refine ⟨rfl, rfl, rfl, by rw [hk]; rfl, by rw [a2]; rfl, by rw [a3]; rfl, by unfold vq; rw [a3]; rfl, by unfold vtm; rw [a3]; rfl, fun hne => ?_, by unfold vq; rw [a4]; rfl, by unfold vtm; rw [a4]; rfl, f2.few (by omega), f3.few (by omega), f4.few (by omega)⟩
  have hne' : ¬ (d2 = d1 ∧ i2 = i1) := fun e => hne ⟨e.1.symm, e.2.symm⟩
  have b2 := vputq_at hk xs d2 i2
  rw [if_neg hne'] at b2
  have b3 := vputt_at a2 ta tf d2 i2
  rw [if_neg hne', b2] at b3
  constructor
  · unfold vq; rw [b3, hk']; exact hq'
  · unfold vtm; rw [b3]
set_option maxRecDepth 100000 in
set_option maxHeartbeats 1000000 in
theorem apart_any (z0 z1 z2 z3 : Nat) (b0 : (z0 : Int) ≤ 255) (b1 : (z1 : Int) ≤ 255) (b2 : (z2 : Int) ≤ 255) (b3 : (z3 : Int) ≤ 255) (A : Option Addr) (n c : Nat) (xs : List En) (ta tf : Int) (w : World) (hr : Rd w w.heap.size 3 A n (ens xs)) (hX : A = none → c = 0) (hnc : n ≤ c) (hok : ∀ x ∈ xs, EnOk x) (hbA : ∀ j, blk A j → j < w.heap.size) (hn : n ≤ 60) :
    Calls Try.prog 6 #[.agg #[.int .u8 z0, .int .u8 z1, .int .u8 z2, .int .u8 z3], .slice A n c, tmV ta tf] w fun e w' => e = .returned (.bool true) ∧ Frm w w' fun _ => False := by
  have h1 : ¬ (60 : Int) < (n : Int) := by omega
  have h2 : decide ((60 : Int) < (n : Int)) = false := by rw [decide_eq_false_iff_not]; exact h1
  have c0 : (0 : Int) ≤ (z0 : Int) := by omega
  have c1 : (0 : Int) ≤ (z1 : Int) := by omega
  have c2 : (0 : Int) ≤ (z2 : Int) := by omega
  have c3 : (0 : Int) ≤ (z3 : Int) := by omega
  have HR := Lib.hid hr
  have HB := Lib.hid hbA
  have HOK := Lib.hid hok
  have HX := Lib.hid hX
  clear hr hbA hok hX
  go_enter Try.func6, Try.ntmps6
  go_wp2_with fail
  refine at_worldC ?_
  intro W hW
  have hF0 : Frm w W fun _ => False := by rw [hW]; exact ((Frm.refl _ _).alloc _).alloc _
  have a0 : W.cell? ⟨w.heap.size, 0, none⟩ = some (.int .u8 z0) := by subst hW; go_simp
  have a1 : W.cell? ⟨w.heap.size, 1, none⟩ = some (.int .u8 z1) := by subst hW; go_simp
  have a2 : W.cell? ⟨w.heap.size, 2, none⟩ = some (.int .u8 z2) := by subst hW; go_simp
  have a3 : W.cell? ⟨w.heap.size, 3, none⟩ = some (.int .u8 z3) := by subst hW; go_simp
  have t0 : W.cell? ⟨w.heap.size + 1, 0, none⟩ = some (.int .u64 ta) := by subst hW; go_simp
  have t1 : W.cell? ⟨w.heap.size + 1, 1, none⟩ = some (.int .u64 tf) := by subst hW; go_simp
  have hW1 : W.heap.size = w.heap.size + 2 := by subst hW; simp
  have hWs := hF0.size
  obtain ⟨b, hb⟩ : ∃ b, w.heap.size = b := ⟨_, rfl⟩
  rw [hb] at a0 a1 a2 a3 t0 t1 hW1 ⊢
  clear hW
  refine (new_v 3 _).mono ?_
  rintro _ w1 ⟨s, rfl, hV, hf⟩
  have V1 := Lib.hid hV
  have F1 := Lib.hid hf
  clear hV hf
  go_wp2_with fail
  refine (grow_v V1.out ((VFewN.new_ 3).few (by omega)) 2 3 4).mono ?_
  rw [show vcan (vnew 3) 2 3 = true by decide +kernel]
  rintro _ w2 ⟨rfl, hV, hf⟩
  have V2 := Lib.hid (hV.sub (O' := fun j => W.heap.size ≤ j) (fun j h1 h2 h3 => h1))
  have F2 := Lib.hid (F1.out.fresh hf (fun j hj => hj))
  replace a0 := F2.out.cell a0 id
  replace a1 := F2.out.cell a1 id
  replace a2 := F2.out.cell a2 id
  replace a3 := F2.out.cell a3 id
  have HT := Lib.hid (And.intro t0 t1)
  have HFA := Lib.hid (hF0.then_ F2.out)
  have hs2 := F2.out.size
  have hb2 : b < w2.heap.size := by omega
  have hb3 : b ≠ w2.heap.size := by omega
  clear hV hf V1 F1 t0 t1 hb hF0
  obtain ⟨d1, hd1⟩ : ∃ d : Int, 2 + (z0 : Int) % 2 = d := ⟨_, rfl⟩
  obtain ⟨i1, hi1⟩ : ∃ d : Int, (z1 : Int) % 4 = d := ⟨_, rfl⟩
  obtain ⟨d2, hd2⟩ : ∃ d : Int, 2 + (z2 : Int) % 2 = d := ⟨_, rfl⟩
  obtain ⟨i2, hi2⟩ : ∃ d : Int, (z3 : Int) % 4 = d := ⟨_, rfl⟩
  have HD := Lib.hid (And.intro (And.intro hd1 hi1) (And.intro hd2 hi2))
  clear hd1 hi1 hd2 hi2
  go_wp2_with fail
  rw [HD.out.1.1, HD.out.1.2, HD.out.2.1, HD.out.2.2]
  have V3 := Lib.hid ((V2.out.sub (O' := fun j => W.heap.size ≤ j ∧ j < w2.heap.size) (fun j h1 h2 h3 => ⟨h3, h2⟩)).new_ (((Frm.refl w2 fun _ => False).alloc (.cells #[.int .i64 d1, .int .i64 i1] 37)).alloc (.cells #[.int .i64 d2, .int .i64 i2] 37)))
  refine (timer_v V3.out d2 i2).mono ?_
  rintro _ w3 ⟨rfl, hf⟩
  obtain ⟨⟨o1, o2⟩, ho⟩ : ∃ o, vtm av1 d2 i2 = o := ⟨_, rfl⟩
  rw [show vtm (vgrow (vnew 3) 2 3 4) d2 i2 = (o1, o2) from ho]
  have HO := Lib.hid ho
  have q80 := hf.cell (p := ⟨w2.heap.size, 0, none⟩) (v := .int .i64 d1) (by go_simp) id
  have q81 := hf.cell (p := ⟨w2.heap.size, 1, none⟩) (v := .int .i64 i1) (by go_simp) id
  have q90 := hf.cell (p := ⟨w2.heap.size + 1, 0, none⟩) (v := .int .i64 d2) (by go_simp) id
  have q91 := hf.cell (p := ⟨w2.heap.size + 1, 1, none⟩) (v := .int .i64 i2) (by go_simp) id
  have hf23 : Frm w2 w3 fun _ => False := (((Frm.refl w2 fun _ => False).alloc (.cells #[.int .i64 d1, .int .i64 i1] 37)).alloc (.cells #[.int .i64 d2, .int .i64 i2] 37)).then_ hf
  have hs3 : w2.heap.size + 2 ≤ w3.heap.size := by have := hf.size; simp at this; omega
  have V4 := Lib.hid ((V3.out.new_ hf).sub (O' := fun j => W.heap.size ≤ j ∧ j ≠ w2.heap.size ∧ j ≠ w2.heap.size + 1 ∧ j ≠ w3.heap.size) (fun j h1 h2 h3 => ⟨h3.1, by omega, by omega, by omega⟩))
  have hq0 := HT.out
  have tt0 := (F2.out.then_ hf23).cell hq0.1 id
  have tt1 := (F2.out.then_ hf23).cell hq0.2 id
  have HFB := Lib.hid (HFA.out.then_ hf23)
  have hb4 : b + 1 ≠ w3.heap.size := by omega
  have hb5 : b + 1 < w3.heap.size := by omega
  have hx8 : w2.heap.size < w3.heap.size := by omega
  have hx9 : w2.heap.size + 1 < w3.heap.size := by omega
  have hWb : b + 1 < W.heap.size := by omega
  obtain ⟨x8, hx8e⟩ : ∃ x, w2.heap.size = x := ⟨_, rfl⟩
  rw [hx8e] at q80 q81 q90 q91 V4 hx8 hx9 hs3 ⊢
  clear hf V3 V2 hq0 a0 a1 a2 a3 ho hx8e hb2 hb3 hf23 HFA HT F2
  go_wp2_with fail
  refine at_worldC ?_
  intro U hU
  have hf3U : Frm w3 U fun _ => False := by rw [hU]; exact (Frm.refl _ _).alloc _
  have hx10 : w3.heap.size < U.heap.size := by rw [hU]; simp
  have hBX : Bx U b x8 w3.heap.size ta tf d1 i1 d2 i2 o1 o2 := ⟨hf3U.cell tt0 id, hf3U.cell tt1 id, hf3U.cell q80 id, hf3U.cell q81 id, hf3U.cell q90 id, hf3U.cell q91 id, by rw [hU]; go_simp, by rw [hU]; go_simp⟩
  have V5 := Lib.hid (V4.out.new_ hf3U)
  have HFU := Lib.hid (HFB.out.then_ hf3U)
  obtain ⟨x10, hx10e⟩ : ∃ x, w3.heap.size = x := ⟨_, rfl⟩
  rw [hx10e] at hBX V5 hx10 hb4 hb5 hx8 hx9 ⊢
  clear hU hf3U V4 HFB q80 q81 q90 q91 tt0 tt1 hs3 hx10e
  have hlen : xs.length ≤ 60 := by have := (Rd.ens HR.out).1; omega
  obtain ⟨v2, v3, v4, hP⟩ : ∃ v2 v3 v4, Apf d1 i1 d2 i2 ta tf xs v2 v3 v4 := ⟨_, _, _, apf ta tf xs hlen (by have := HD.out.1.1; omega) (by have := HD.out.1.2; omega) (by have := HD.out.2.1; omega) (by have := HD.out.2.2; omega)⟩
  have HP := Lib.hid hP
  have hRU : Rd U U.heap.size 3 A n (ens xs) := HR.out.new_ HFU.out
  have hsub : ∀ (N : Nat) j, x10 < N → (W.heap.size ≤ j ∧ j ≠ x8 ∧ j ≠ x8 + 1 ∧ j ≠ x10) ∨ N ≤ j → (W.heap.size ≤ j → W.heap.size ≤ j ∧ j ≠ x8 ∧ j ≠ x8 + 1 ∧ j ≠ x10) := fun N j h1 h2 h3 => h2.elim id fun h => ⟨h3, by omega, by omega, by omega⟩
  have no1 : ¬ (W.heap.size ≤ b + 1 ∧ b + 1 ≠ x8 ∧ b + 1 ≠ x8 + 1 ∧ b + 1 ≠ x10) := by omega
  refine (put_v V5.out d1 i1 A n c xs hRU HX.out hnc (by omega) HOK.out).mono ?_
  rw [show (vk (vgrow (vnew 3) 2 3 4) d1 i1).isSome = true from HP.out.s1]
  rintro _ w4 ⟨rfl, hV, hf⟩
  have BX4 := hBX.frm hf no1 (fun h => h.2.1 rfl) (fun h => h.2.2.1 rfl) (fun h => h.2.2.2 rfl)
  have V6 : Hid (SetV w4 W.heap.size s (fun j => W.heap.size ≤ j ∧ j ≠ x8 ∧ j ≠ x8 + 1 ∧ j ≠ x10) v2) := by
    rw [HP.out.e2]
    exact Lib.hid (hV.sub fun j h1 h2 h3 => hsub _ j hx10 h3 h1)
  have HF4 := Lib.hid (HFU.out.fresh hf fun j hj => by have := hj.1; omega)
  have hsz4 := hf.size
  obtain ⟨y0, y1, y2, y3, y4, y5, y6, y7⟩ := BX4
  have BX4 := Lib.hid (⟨y0, y1, y2, y3, y4, y5, y6, y7⟩ : Bx w4 b x8 x10 ta tf d1 i1 d2 i2 o1 o2)
  clear hV hf V5 HFU hBX
  go_wp2_with fail
  refine (putTimer_v V6.out d1 i1 ta tf).mono ?_
  rw [HP.out.s2]
  rintro _ w5 ⟨rfl, hV, hf⟩
  have BX5 := BX4.out.frm hf no1 (fun h => h.2.1 rfl) (fun h => h.2.2.1 rfl) (fun h => h.2.2.2 rfl)
  have V7 : Hid (SetV w5 W.heap.size s (fun j => W.heap.size ≤ j ∧ j ≠ x8 ∧ j ≠ x8 + 1 ∧ j ≠ x10) v3) := by
    rw [HP.out.e3]
    exact Lib.hid hV
  have HF5 := Lib.hid (HF4.out.fresh hf fun j hj => by have := hj.1; omega)
  have hsz5 := hf.size
  clear hV hf V6 HF4 BX4 y0 y1 y2 y3 y4 y5 y6 y7
  obtain ⟨y0, y1, y2, y3, y4, y5, y6, y7⟩ := BX5
  have BX5 := Lib.hid (⟨y0, y1, y2, y3, y4, y5, y6, y7⟩ : Bx w5 b x8 x10 ta tf d1 i1 d2 i2 o1 o2)
  go_wp2_with fail
  refine (queue_v V7.out HP.out.f3 d1 i1).mono ?_
  rw [HP.out.q3]
  rintro _ w6 ⟨A6, rfl, hS, hf⟩
  have S6 := Lib.hid hS
  have BX6 := BX5.out.new_ hf
  have V8 := Lib.hid (V7.out.new_ hf)
  have HF6 := Lib.hid (HF5.out.then_ hf)
  have hnl : n = xs.length := (Rd.ens HR.out).1
  have hsz6 := hf.size
  clear hS hf V7 HF5 BX5 y0 y1 y2 y3 y4 y5 y6 y7
  rw [← hnl]
  rw [← hnl] at S6
  have HNL := Lib.hid hnl
  obtain ⟨y0, y1, y2, y3, y4, y5, y6, y7⟩ := BX6
  have BX6 := Lib.hid (⟨y0, y1, y2, y3, y4, y5, y6, y7⟩ : Bx w6 b x8 x10 ta tf d1 i1 d2 i2 o1 o2)
  clear hnl hlen hP
  go_wp2_with fail
  have HT1 := Lib.hid (fun V (hf : Frm w6 V fun _ => False) => show Calls Try.prog 12 #[.pointer (some ⟨s, 0, none⟩), plV d1 i1] V fun e w' => e = .returned (tmV ta tf) ∧ Frm V w' fun _ => False by have := timer_v (V8.out.new_ hf) d1 i1; rw [HP.out.t3] at this; exact this)
  have e33a : ∀ V, (binOp .neq 33 (tmV ta tf) (tmV ta tf)).run Try.prog V = .ok (.bool false) V := fun V => by rw [neq33]; simp
  have e33b : ∀ V, (binOp .neq 33 (tmV o1 o2) (tmV o1 o2)).run Try.prog V = .ok (.bool false) V := fun V => by rw [neq33]; simp
  have eg33 := eqg33
  have eg37 := eqg37
  go_cut [89] from 13 to 124 (fun s89 wx => s89 = .bool false ∧ Frm w6 wx fun _ => False)
  case first =>
    have D := Lib.hid ((Frm.refl w6 fun _ => False).drew)
    by_cases hsame : d1 = d2 ∧ i1 = i2
    · have e37 : ∀ V, (binOp .neq 37 (plV d1 i1) (plV d2 i2)).run Try.prog V = .ok (.bool false) V := fun V => by rw [neq37, hsame.1, hsame.2]; simp
      clear hsame D
      have z0 := Grown.cell BX6.out.t0
      have z1 := Grown.cell BX6.out.t1
      have z2 := Grown.cell BX6.out.p0
      have z3 := Grown.cell BX6.out.p1
      have z4 := Grown.cell BX6.out.q0
      have z5 := Grown.cell BX6.out.q1
      have z6 := Grown.cell BX6.out.o0
      have z7 := Grown.cell BX6.out.o1
      clear y0 y1 y2 y3 y4 y5 y6 y7
      have HG1 := Lib.hid (fun F : Grown w6 => HT1.out F.1 F.2)
      have nn : ((n : Int) != (n : Int)) = false := by simp
      refine wp_region_grown w6 (Frm.refl _ _) (by kernel_rfl) (by kernel_rfl) ?_
      repeat (go_big_quiet_step ((go_at_call 12; refine Calls.grown_of (HG1.out _))))
      refine wpQuiet_nil ?_
      intro wq hq
      go_wp2_with fail
      go_meet
      exact ⟨rfl, hq⟩
    · have e37 : ∀ V, (binOp .neq 37 (plV d1 i1) (plV d2 i2)).run Try.prog V = .ok (.bool true) V := fun V => by rw [neq37]; simp; omega
      have HQB := HP.out.qb hsame
      have HT2 := Lib.hid (fun V (hf : Frm w6 V fun _ => False) => show Calls Try.prog 12 #[.pointer (some ⟨s, 0, none⟩), plV d2 i2] V fun e w' => e = .returned (tmV o1 o2) ∧ Frm V w' fun _ => False by have := timer_v (V8.out.new_ hf) d2 i2; rw [HQB.2, HO.out] at this; exact this)
      have HQ2 := Lib.hid (fun V (hf : Frm w6 V fun _ => False) => show Calls Try.prog 25 #[.pointer (some ⟨s, 0, none⟩), plV d2 i2] V fun e w' => ∃ A', e = .returned (.slice A' 0 0) ∧ Frm V w' fun _ => False by have := queue_v (V8.out.new_ hf) HP.out.f3 d2 i2; rw [HQB.1] at this; exact this.mono fun _ _ ⟨A', h1, _, h2⟩ => ⟨A', h1, h2⟩)
      clear hsame HQB
      go_region_held3 (fun w' => w'.cell? ⟨b + 1, 0, none⟩ = some (.int .u64 ta) ∧ w'.cell? ⟨b + 1, 1, none⟩ = some (.int .u64 tf) ∧ w'.cell? ⟨x8, 0, none⟩ = some (.int .i64 d1) ∧ w'.cell? ⟨x8, 1, none⟩ = some (.int .i64 i1) ∧ w'.cell? ⟨x8 + 1, 0, none⟩ = some (.int .i64 d2) ∧ w'.cell? ⟨x8 + 1, 1, none⟩ = some (.int .i64 i2) ∧ w'.cell? ⟨x10, 0, none⟩ = some (.int .u64 o1) ∧ w'.cell? ⟨x10, 1, none⟩ = some (.int .u64 o2)) (first | assumption | go_keep | (refine ⟨?_, ?_, ?_, ?_, ?_, ?_, ?_, ?_⟩ <;> first | assumption | go_keep)) (first
        | (go_at_call 12; with_reducible refine (HT1.out _ D.out).mono ?_; rintro _ w7 ⟨rfl, hf⟩; replace D := Lib.hid (D.out.then_ hf); clear hf; obtain ⟨y0, y1, y2, y3, y4, y5, y6, y7⟩ := BX6.out.new_ D.out)
        | (go_at_call 12; with_reducible refine (HT2.out _ D.out).mono ?_; rintro _ w7 ⟨rfl, hf⟩; replace D := Lib.hid (D.out.then_ hf); clear hf; obtain ⟨y0, y1, y2, y3, y4, y5, y6, y7⟩ := BX6.out.new_ D.out)
        | (go_at_call 25; refine (HQ2.out _ D.out).mono ?_; rintro _ w7 ⟨A9, rfl, hf⟩; replace D := Lib.hid (D.out.then_ hf); clear hf; obtain ⟨y0, y1, y2, y3, y4, y5, y6, y7⟩ := BX6.out.new_ D.out))
      all_goals
        go_wp2_with fail
        go_meet
        exact ⟨rfl, D.out⟩
  case rest =>
    obtain ⟨rfl, hfx⟩ := hcut
    have DX := Lib.hid hfx
    have e43 := neq43
    have eg43 := eqg43
    have HWF := Lib.hid HF6.out.size
    clear hfx e33a e33b eg33 eg37 y0 y1 y2 y3 y4 y5 y6 y7
    go_wp2_with fail
    go_loopw [12] (fun i wr => ∃ k : Nat, i = .int .i64 k ∧ k ≤ n ∧ Frm w6 wr fun _ => False) (fun i _ => n - (intOf i).toNat)
    case atStart => exact ⟨0, rfl, Nat.zero_le _, DX.out⟩
    case round =>
      obtain ⟨k, rfl, hk, hG⟩ := hrel
      have G := Lib.hid hG
      clear hG
      by_cases hlk : k < n
      · have k0 : (0 : Int) ≤ (k : Int) := by omega
        have k1 : (k : Int) < (n : Int) := by omega
        have hkx : k < xs.length := by have := HNL.out; omega
        obtain ⟨ga, oa, rfl, -, ca⟩ := (Rd.ens (S6.out.new_ G.out).rd).2 (by omega)
        obtain ⟨gl, ol, rfl, -, cl⟩ := (Rd.ens (HR.out.new_ (HF6.out.then_ G.out))).2 (by omega)
        obtain ⟨p0, p1, p2⟩ := ca k hkx
        obtain ⟨q0, q1, q2⟩ := cl k hkx
        replace p0 := Grown.cell p0
        replace p1 := Grown.cell p1
        replace p2 := Grown.cell p2
        replace q0 := Grown.cell q0
        replace q1 := Grown.cell q1
        replace q2 := Grown.cell q2
        clear ca cl
        go_wp2_with fail
        refine wp_region_grown wr (Frm.refl _ _) (by kernel_rfl) (by kernel_rfl) ?_
        repeat (go_big_quiet_step (fail))
        refine wpQuiet_nil ?_
        intro wq hq
        have HQ2 := Lib.hid hq
        clear hq p0 p1 p2 q0 q1 q2
        go_wp2_with fail
        go_roundw
        case rel => exact ⟨k + 1, by go_num, by omega, G.out.then_ HQ2.out⟩
        case measure => simp [intOf]; omega
      · obtain rfl : k = n := by omega
        have e33t : ∀ V, (binOp .eql 33 (tmV ta tf) (tmV ta tf)).run Try.prog V = .ok (.bool true) V := fun V => by rw [eql33]; simp
        have eg33 := eqg33
        have BXr := BX6.out.new_ (G.out.then_ (Frm.refl wr fun _ => False).drew)
        obtain ⟨y0, y1, y2, y3, y4, y5, y6, y7⟩ := BXr
        have BXr := Lib.hid (⟨y0, y1, y2, y3, y4, y5, y6, y7⟩ : Bx wr.drew b x8 x10 ta tf d1 i1 d2 i2 o1 o2)
        have VR := Lib.hid (V8.out.new_ (G.out.then_ (Frm.refl wr fun _ => False).drew))
        have HFR := Lib.hid (HF6.out.then_ (G.out.then_ (Frm.refl wr fun _ => False).drew))
        have hxr : x10 < wr.drew.heap.size := by have := G.out.size; show x10 < wr.heap.size; omega
        go_wp2_with fail
        go_region_with (first
          | (go_at_call 23; refine (put_v VR.out d1 i1 none 0 0 [] (Rd.nil _ _ _ _) (fun _ => rfl) (Nat.le_refl _) (by decide) (fun x h => by cases h)).mono ?_; rw [HP.out.s3]; rintro _ wp ⟨rfl, hV, hf⟩; have BXp := BXr.out.frm hf no1 (fun h => h.2.1 rfl) (fun h => h.2.2.1 rfl) (fun h => h.2.2.2 rfl); have VP : Hid (SetV wp W.heap.size s (fun j => W.heap.size ≤ j ∧ j ≠ x8 ∧ j ≠ x8 + 1 ∧ j ≠ x10) v4) := (by rw [HP.out.e4]; exact Lib.hid (hV.sub fun j h1 h2 h3 => hsub _ j hxr h3 h1)); have HFP := Lib.hid (HFR.out.fresh hf fun j hj => by have := hj.1; omega); clear hV hf; obtain ⟨y0, y1, y2, y3, y4, y5, y6, y7⟩ := BXp; have BXp := Lib.hid (⟨y0, y1, y2, y3, y4, y5, y6, y7⟩ : Bx wp b x8 x10 ta tf d1 i1 d2 i2 o1 o2); have D := Lib.hid (Frm.refl wp fun _ => False))
          | (go_at_call 25; refine (queue_v (VP.out.new_ D.out) HP.out.f4 d1 i1).mono ?_; rw [HP.out.q4]; rintro _ w7 ⟨A9, rfl, -, hf⟩; replace D := Lib.hid (D.out.then_ hf); clear hf; obtain ⟨y0, y1, y2, y3, y4, y5, y6, y7⟩ := BXp.out.new_ D.out)
          | (go_at_call 12; refine (timer_v (VP.out.new_ D.out) d1 i1).mono ?_; rw [HP.out.t4]; rintro _ w7 ⟨rfl, hf⟩; replace D := Lib.hid (D.out.then_ hf); clear hf; obtain ⟨y0, y1, y2, y3, y4, y5, y6, y7⟩ := BXp.out.new_ D.out)
          | (go_at_call 7; refine (lives_any _).mono ?_; rintro _ w7 ⟨rfl, hf⟩; replace D := Lib.hid (D.out.then_ hf); clear hf))
        all_goals
          go_wp2_with fail
          go_ret
          exact ⟨rfl, HFP.out.then_ D.out⟩
end Go.Proofs.Ytajcijocjbakbaa
