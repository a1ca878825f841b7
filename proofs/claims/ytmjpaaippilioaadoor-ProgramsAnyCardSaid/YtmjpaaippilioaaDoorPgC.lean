import Derived.Test.YtmjpaaippilioaaDoorPgB
import Derived.Test.YtmjpaaippilioaaDoorGrw
import Derived.Deep.CutBlock
import Derived.Deep.MidRow
namespace Go.Proofs.YtmjpaaippilioaaDoor
open Go.RowKit

theorem at_world' {P : Program} {c : Code} {Q : Exit → Act → World → Prop} {a : Act} {w : World} (h : ∀ W, W = w → c.wp P Q a W) : c.wp P Q a w := h w rfl
/-! ### the tables; an operation that is plain -/
/-- What a kind uses. -/
structure Use where
  word : ByteArray
  first : Int
  other : Int
  ticks : Bool
  flag : ByteArray
  fails : Bool
  args : Int
def Use.V (u : Use) : List Value := [.string u.word, .int .u32 u.first, .int .u32 u.other, .bool u.ticks, .string u.flag, .bool u.fails, .int .i64 u.args]
/-- The tables lie as they were laid. -/
structure Tabs (w : World) (U : Nat → Use) : Prop where
  u : ∀ k, k < 26 → ∀ j v, (U k).V[j]? = some v → w.cell? ⟨3, k * 7 + j, none⟩ = some v
theorem Tabs.new_ {w w' : World} {U : Nat → Use}  (h : Tabs w U) (hf : Frm w w' fun _ => False) : Tabs w' U :=
  ⟨fun k hk j v hv => hf.cell (h.u k hk j v hv) id⟩
/-- An operation. -/
structure OpR where
  k : Int
  a : Int
  o : Int
  t : Int
  fl : Bool
  fa : Bool
  g : Int
abbrev OpR.V (x : OpR) : Value := .agg #[.int .u8 x.k, .int .i64 x.a, .int .i64 x.o, .int .i64 x.t, .bool x.fl, .bool x.fa, .int .i64 x.g]
def plainU (u : Use) (x : OpR) : OpR :=
  ⟨x.k, x.a, if u.other != 0 then x.o else 0, if u.ticks then x.t else -1, x.fl && !u.flag.toList.isEmpty, x.fa && u.fails, if decide (0 < u.args) then x.g % u.args else 0⟩
abbrev plainO (U : Nat → Use) (x : OpR) : OpR := plainU (U x.k.toNat) x
theorem at_body {P : Program} {fn : Func} {R : Ending → World → Prop} {e : Exit} {a : Act} {w : World} (h : ∀ W, W = w → bodyPost P fn R e a W) : bodyPost P fn R e a w := h w rfl
set_option maxRecDepth 100000 in
theorem within_any (n least below : Int) (w : World) : Calls Tryd.prog 73 #[.int .i64 n, .int .i64 least, .int .i64 below] w fun e w' => e = .returned (.bool (decide (least ≤ n) && decide (n < below))) ∧ w = w' := by
  cases h1 : decide (least ≤ n) with
  | false =>
    go_enter Tryd.func73, Tryd.ntmps73
    go_wp2
    go_ret
    exact ⟨by simp, rfl⟩
  | true =>
    go_enter Tryd.func73, Tryd.ntmps73
    go_wp2
    go_ret
    exact ⟨by simp, rfl⟩
theorem build34 (k a : Int) (w : World) : (Instr.build 50 #[(0, Value.int .u8 k), (1, Value.int .i64 a), (3, Value.int .i64 (-1))]).run Tryd.prog w = .ok (.agg #[.int .u8 k, .int .i64 a, .int .i64 0, .int .i64 (-1), .bool false, .bool false, .int .i64 0]) w := by kernel_rfl
set_option maxRecDepth 100000 in
set_option maxHeartbeats 2000000 in
theorem plain_any (U : Nat → Use) (x : OpR) (k : Nat) (hk : x.k = k) (hk26 : k < 26) (hg : 0 ≤ x.g) (w : World) (h : Tabs w U) (h0 : 4 < w.heap.size) :
    Calls Tryd.prog 74 #[x.V] w fun e w' => e = .returned (plainO U x).V ∧ Frm w w' fun _ => False := by
  obtain ⟨xk, xa, xo, xt, xfl, xfa, xg⟩ := x
  have hk : xk = k := hk
  subst hk
  have c := fun j v hv => h.u k hk26 j v hv
  simp only [plainO, Int.toNat_natCast]
  obtain ⟨⟨uw, uf, uo, ut, ufl, ufa, ua⟩, hu⟩ : ∃ u, U k = u := ⟨_, rfl⟩
  rw [hu] at c ⊢
  simp only [plainU]
  have c0 := c 0 _ rfl
  have c1 := c 1 _ rfl
  have c2 := c 2 _ rfl
  have c3 := c 3 _ rfl
  have c4 := c 4 _ rfl
  have c5 := c 5 _ rfl
  have c6 := c 6 _ rfl
  rw [Nat.add_zero] at c0
  have k0 : (0 : Int) ≤ (k : Int) := by omega
  have k1 : (k : Int) < 26 := by omega
  have z0 : 3 < w.heap.size := by omega
  have z1 : (3 : Nat) ≠ w.heap.size := by omega
  clear h c hu
  obtain ⟨b1, e1⟩ : ∃ b, (uo != 0) = b := ⟨_, rfl⟩
  obtain ⟨b3, e3⟩ : ∃ b, decide (0 < ua) = b := ⟨_, rfl⟩
  have e4 : b3 = true → 0 < ua := fun h => by rw [h] at e3; exact of_decide_eq_true e3
  rw [e1, e3]
  obtain ⟨vo, hvo⟩ : ∃ v, v = if b1 then xo else 0 := ⟨_, rfl⟩
  obtain ⟨vt, hvt⟩ : ∃ v, v = if ut then xt else -1 := ⟨_, rfl⟩
  obtain ⟨vf, hvf⟩ : ∃ v, v = (xfl && !ufl.toList.isEmpty) := ⟨_, rfl⟩
  obtain ⟨va, hva⟩ : ∃ v, v = (xfa && ufa) := ⟨_, rfl⟩
  obtain ⟨vg, hvg⟩ : ∃ v, v = if b3 then xg % ua else 0 := ⟨_, rfl⟩
  rw [← hvo, ← hvt, ← hvf, ← hva, ← hvg]
  have hv1 := Lib.hid hvo
  have hv2 := Lib.hid hvt
  have hv3 := Lib.hid hvf
  have hv4 := Lib.hid hva
  have hv5 := Lib.hid hvg
  clear hvo hvt hvf hva hvg
  go_enter Tryd.func74, Tryd.ntmps74
  go_upto_region 1 with fail
  refine at_world' ?_
  intro W hW
  have hF : Frm w W fun _ => False := by rw [hW]; exact ((Frm.refl _ _).alloc _).alloc _
  have p0 : W.cell? ⟨w.heap.size, 0, none⟩ = some (.int .u8 k) := by subst hW; go_simp
  have p1 : W.cell? ⟨w.heap.size, 1, none⟩ = some (.int .i64 xa) := by subst hW; go_simp
  have p2 : W.cell? ⟨w.heap.size, 2, none⟩ = some (.int .i64 xo) := by subst hW; go_simp
  have p3 : W.cell? ⟨w.heap.size, 3, none⟩ = some (.int .i64 xt) := by subst hW; go_simp
  have p4 : W.cell? ⟨w.heap.size, 4, none⟩ = some (.bool xfl) := by subst hW; go_simp
  have p5 : W.cell? ⟨w.heap.size, 5, none⟩ = some (.bool xfa) := by subst hW; go_simp
  have p6 : W.cell? ⟨w.heap.size, 6, none⟩ = some (.int .i64 xg) := by subst hW; go_simp
  have hsW : W.heap.size = w.heap.size + 2 := by subst hW; simp
  replace c0 := hF.cell c0 id
  replace c1 := hF.cell c1 id
  replace c2 := hF.cell c2 id
  replace c3 := hF.cell c3 id
  replace c4 := hF.cell c4 id
  replace c5 := hF.cell c5 id
  replace c6 := hF.cell c6 id
  obtain ⟨b, hb⟩ : ∃ b, w.heap.size = b := ⟨_, rfl⟩
  have r0 : ∀ j v, (#[Value.int .u8 0, .int .i64 0, .int .i64 0, .int .i64 0, .bool false, .bool false, .int .i64 0] : Array Value)[j]? = some v → W.cell? ⟨b + 1, j, none⟩ = some v := fun j v hv => by
    rw [hW, ← hb]
    have e : w.heap.size + 1 = (w.alloc (.cells #[.int .u8 k, .int .i64 xa, .int .i64 xo, .int .i64 xt, .bool xfl, .bool xfa, .int .i64 xg] 50)).heap.size := by simp
    rw [e, World.cell?_alloc_new]
    exact hv
  have rf : ∀ j, W.frozen? ⟨b + 1, j, none⟩ = false := fun j => by rw [hW, ← hb]; go_simp
  rw [hb] at p0 p1 p2 p3 p4 p5 p6 hsW z0 ⊢
  obtain ⟨rb, hrb⟩ : ∃ r, b + 1 = r := ⟨_, rfl⟩
  rw [hrb] at r0 rf ⊢
  have z2 : (3 : Nat) < W.heap.size := by omega
  have z3 : b < W.heap.size := by omega
  have z4 : (3 : Nat) ≠ W.heap.size := by omega
  have z5 : b ≠ W.heap.size := by omega
  have z6 : rb < W.heap.size := by omega
  have z7 : rb ≠ b := by omega
  have z8 : b < W.heap.size + 1 := by omega
  have z9 : b ≠ W.heap.size + 1 := by omega
  have z10 : rb < W.heap.size + 1 := by omega
  have z11 : rb ≠ W.heap.size + 1 := by omega
  have z12 : rb ≠ W.heap.size := by omega
  have z13 : (3 : Nat) < W.heap.size + 1 := by omega
  have hF2 := Lib.hid (And.intro hF (show ¬ rb < w.heap.size by omega))
  have r1 := r0 0 _ rfl
  have r2 := r0 1 _ rfl
  have r3 := r0 2 _ rfl
  have r4 := r0 3 _ rfl
  have r5 := r0 4 _ rfl
  have r6 := r0 5 _ rfl
  have r7 := r0 6 _ rfl
  have s1 := rf 0
  have s2 := rf 1
  have s3 := rf 2
  have s4 := rf 3
  have s5 := rf 4
  have s6 := rf 5
  have s7 := rf 6
  clear hF hsW hb hrb r0 rf z0 h0
  clear hW z1
  have hbd := build34
  have hfin : ∀ (W' : World) (vo vt : Int) (vfl vfa : Bool) (vg : Int) (a : Act), W'.cell? ⟨rb, 0, none⟩ = some (.int .u8 k) → W'.cell? ⟨rb, 1, none⟩ = some (.int .i64 xa) → W'.cell? ⟨rb, 2, none⟩ = some (.int .i64 vo) →
      W'.cell? ⟨rb, 3, none⟩ = some (.int .i64 vt) → W'.cell? ⟨rb, 4, none⟩ = some (.bool vfl) → W'.cell? ⟨rb, 5, none⟩ = some (.bool vfa) → W'.cell? ⟨rb, 6, none⟩ = some (.int .i64 vg) →
      a.tmps[2]? = some (.pointer (some ⟨rb, 0, none⟩)) → (results Tryd.f74 a.tmps).run Tryd.prog W' = .ok (OpR.V ⟨k, xa, vo, vt, vfl, vfa, vg⟩) W' := fun W' vo vt vfl vfa vg a x0 x1 x2 x3 x4 x5 x6 h => by
    simp [results, Tryd.results74, go_sem, h, x0, x1, x2, x3, x4, x5, x6]
  cases b1 <;> cases ut <;> (go_wp2_with fail; cases xfl <;> cases xfa)
  all_goals go_region
  all_goals cases b3
  all_goals (first | have e5 := e4 rfl | skip)
  all_goals go_wp2_with fail
  all_goals (
      refine at_body ?_; intro W' hW'
      have x0 : W'.cell? ⟨rb, 0, none⟩ = some (.int .u8 k) := by subst hW'; go_simp
      have x1 : W'.cell? ⟨rb, 1, none⟩ = some (.int .i64 xa) := by subst hW'; go_simp
      have x2 : W'.cell? ⟨rb, 2, none⟩ = some (.int .i64 vo) := by rw [hv1.out]; subst hW'; go_simp
      have x3 : W'.cell? ⟨rb, 3, none⟩ = some (.int .i64 vt) := by rw [hv2.out]; subst hW'; go_simp
      have x4 : W'.cell? ⟨rb, 4, none⟩ = some (.bool vf) := by rw [hv3.out]; subst hW'; go_simp
      have x5 : W'.cell? ⟨rb, 5, none⟩ = some (.bool va) := by rw [hv4.out]; subst hW'; go_simp
      have x6 : W'.cell? ⟨rb, 6, none⟩ = some (.int .i64 vg) := by rw [hv5.out]; subst hW'; go_simp
      refine bodyPost_ret (v := OpR.V ⟨k, xa, vo, vt, vf, va, vg⟩) (hfin W' vo vt vf va vg _ x0 x1 x2 x3 x4 x5 x6 rfl) rfl ⟨rfl, ?_⟩
      rw [hW']
      repeat (first | with_reducible refine Frm.drew ?_ | with_reducible refine Frm.alloc ?_ _ | with_reducible refine Frm.setCell ?_ (fun h => absurd h hF2.out.2) _)
      exact hF2.out.1)
end Go.Proofs.YtmjpaaippilioaaDoor
