import Derived.Test.YtllicaibgjjidaaLkD
namespace Go.Proofs.Ytllicaibgjjidaa
open Go.RowKit
/-- The 192 noughts of a set of links. -/
def Z192 : Array Value := Array.replicate 192 (.int .i64 0)
theorem zero68 (w : World) : (zeroValue 68).run Try.prog w = .ok (.agg Z192) w := by kernel_rfl
theorem zero53 (w : World) : (zeroValue 53).run Try.prog w = .ok (.agg Z192) w := by kernel_rfl
theorem z192_get (i : Nat) (h : i < 192) : Z192[i]? = some (.int .i64 0) := by unfold Z192; rw [Array.getElem?_replicate, if_pos h]
theorem lnk_new (w : World) (t : TypeId) : Lnk (w.alloc (.cells Z192 t)) w.heap.size (fun _ => 0) := Lnk.new w t _ _ fun i hi => z192_get i hi
theorem new_any (w : World) : Calls Try.prog 24 #[] w fun e w' => e = .returned (.pointer (some ⟨w.heap.size, 0, none⟩)) ∧ Lnk w' w.heap.size (fun _ => 0) ∧ w.grownBy w' none := by
  have hz := zero68
  go_enter Try.func24, Try.ntmps24
  go_wp2
  go_ret
  exact ⟨rfl, lnk_new _ _, World.grownBy_alloc _ _ _⟩

/-! ### the chapter's examples -/
theorem ok0 : Lk.Ok fun _ => 0 := Lk.Ok.zero
def fA : Lk.St := Lk.push (fun _ => 0) 4 (-1)
def fB : Lk.St := Lk.push fA 2 4
def fC : Lk.St := Lk.push fB 7 2
def fD : Lk.St := (Lk.seek fC 7).1
def fE : Lk.St := (Lk.cut fD 7 4).1
def fF : Lk.St := (Lk.seek fE 7).1
def fG : Lk.St := (Lk.cut fF 7 2).1
theorem okC : Lk.Ok fC := ((ok0.push 4 (-1)).push 2 4).push 7 2
theorem okD : Lk.Ok fD := okC.seek 7
theorem okE : Lk.Ok fE := okD.cut 7 4
theorem okF : Lk.Ok fF := okE.seek 7
theorem okG : Lk.Ok fG := okF.cut 7 2
theorem v1 : (Lk.seek fC 7).2 = 4 := by decide +kernel
theorem v2 : Lk.nx fD 4 = 0 ∧ Lk.pv fD 4 = 3 ∧ Lk.tl fD 4 = 5 := by decide +kernel
theorem v3 : (Lk.cut fD 7 4).2 = 2 := by decide +kernel
theorem v4 : (Lk.seek fE 7).2 = 2 := by decide +kernel
theorem v5 : (Lk.cut fF 7 2).2 = 7 := by decide +kernel
theorem v6 : (Lk.cut fG 7 7).2 = -1 := by decide +kernel

theorem c1 (b : Nat) (w : World) (h : Lnk w b (fun _ => 0)) : Calls Try.prog 27 #[.pointer (some ⟨b, 0, none⟩), .int .i64 4, .int .i64 (-1)] w fun e w' => e = .returned (.tuple #[]) ∧ Lnk w' b fA ∧ w.grownBy w' (some b) := push_any b _ 4 (-1) w h
theorem c2 (b : Nat) (w : World) (h : Lnk w b fA) : Calls Try.prog 27 #[.pointer (some ⟨b, 0, none⟩), .int .i64 2, .int .i64 4] w fun e w' => e = .returned (.tuple #[]) ∧ Lnk w' b fB ∧ w.grownBy w' (some b) := push_any b _ 2 4 w h
theorem c3 (b : Nat) (w : World) (h : Lnk w b fB) : Calls Try.prog 27 #[.pointer (some ⟨b, 0, none⟩), .int .i64 7, .int .i64 2] w fun e w' => e = .returned (.tuple #[]) ∧ Lnk w' b fC ∧ w.grownBy w' (some b) := push_any b _ 7 2 w h
theorem c4 (b : Nat) (w : World) (h : Lnk w b fC) : Calls Try.prog 29 #[.pointer (some ⟨b, 0, none⟩), .int .i64 7] w fun e w' => e = .returned (.int .i64 4) ∧ Lnk w' b fD ∧ w.grownBy w' (some b) := by
  have := seek_yes b fC 7 (by decide) (by decide) w h okC
  rw [v1] at this; exact this
theorem c5 (b : Nat) (w : World) (h : Lnk w b fD) : Calls Try.prog 28 #[.pointer (some ⟨b, 0, none⟩), .int .i64 4] w fun e w' => e = .returned (.agg #[.int .i64 (-1), .int .i64 2, .int .i64 4]) ∧ w.grownBy w' none := by
  have := At_yes b fD 4 (by decide) (by decide) w h okD
  rw [v2.1, v2.2.1, v2.2.2] at this; exact this
theorem c6 (b : Nat) (w : World) (h : Lnk w b fD) : Calls Try.prog 30 #[.pointer (some ⟨b, 0, none⟩), .int .i64 7, .int .i64 4] w fun e w' => e = .returned (.int .i64 2) ∧ Lnk w' b fE ∧ w.grownBy w' (some b) := by
  have := cut_any b fD 7 4 w h okD
  rw [v3] at this; exact this
theorem c7 (b : Nat) (w : World) (h : Lnk w b fE) : Calls Try.prog 29 #[.pointer (some ⟨b, 0, none⟩), .int .i64 7] w fun e w' => e = .returned (.int .i64 2) ∧ Lnk w' b fF ∧ w.grownBy w' (some b) := by
  have := seek_yes b fE 7 (by decide) (by decide) w h okE
  rw [v4] at this; exact this
theorem c8 (b : Nat) (w : World) (h : Lnk w b fF) : Calls Try.prog 30 #[.pointer (some ⟨b, 0, none⟩), .int .i64 7, .int .i64 2] w fun e w' => e = .returned (.int .i64 7) ∧ Lnk w' b fG ∧ w.grownBy w' (some b) := by
  have := cut_any b fF 7 2 w h okF
  rw [v5] at this; exact this
theorem c9 (b : Nat) (w : World) (h : Lnk w b fG) : Calls Try.prog 30 #[.pointer (some ⟨b, 0, none⟩), .int .i64 7, .int .i64 7] w fun e w' => e = .returned (.int .i64 (-1)) ∧ w.grownBy w' (some b) := by
  have := cut_any b fG 7 7 w h okG
  rw [v6] at this; exact this.mono fun e w' ⟨h1, _, h2⟩ => ⟨h1, h2⟩

theorem lives_any (w : World) : Calls Try.prog 23 #[] w fun e w' => e = .returned (.bool true) ∧ w.grownBy w' none := by
  go_enter Try.func23, Try.ntmps23
  go_wp2_with fail
  refine (new_any w).mono ?_; rintro e w0 ⟨rfl, h0, g0⟩
  go_wp2_with fail
  refine (c1 _ _ h0).mono ?_; rintro e w1 ⟨rfl, h1, g1⟩
  go_wp2_with fail
  refine (c2 _ _ h1).mono ?_; rintro e w2 ⟨rfl, h2, g2⟩
  go_wp2_with fail
  refine (c3 _ _ h2).mono ?_; rintro e w3 ⟨rfl, h3, g3⟩
  go_wp2_with fail
  refine (c4 _ _ h3).mono ?_; rintro e w4 ⟨rfl, h4, g4⟩
  go_wp2_with fail
  refine (c5 _ _ h4).mono ?_; rintro e w5 ⟨rfl, g5⟩
  have h5 := h4.grown g5 (by simp)
  go_wp2_with fail
  have h5' := h5.alloc (.cells #[.int .i64 (-1), .int .i64 2, .int .i64 4] 60)
  refine (c6 _ _ h5').mono ?_; rintro e w6 ⟨rfl, h6, g6⟩
  have hne : w5.heap.size ≠ w.heap.size := by have := h5.lt; omega
  have k0 : ∀ i v, (#[.int .i64 (-1), .int .i64 2, .int .i64 4] : Array Value)[i]? = some v → w6.cell? ⟨w5.heap.size, i, none⟩ = some v := fun i v hv =>
    g6.cell (a := ⟨w5.heap.size, i, none⟩) ((World.cell?_alloc_new _ _ _ _).trans hv) (by simpa using hne)
  have K0 := Lib.hid k0
  have HN := Lib.hid hne
  clear k0 hne
  go_wp2_with fail
  refine (c7 _ _ h6).mono ?_; rintro e w7 ⟨rfl, h7, g7⟩
  go_wp2_with fail
  refine (c8 _ _ h7).mono ?_; rintro e w8 ⟨rfl, h8, g8⟩
  have k1 : ∀ i v, (#[.int .i64 (-1), .int .i64 2, .int .i64 4] : Array Value)[i]? = some v → w8.cell? ⟨w5.heap.size, i, none⟩ = some v := fun i v hv =>
    g8.cell (a := ⟨w5.heap.size, i, none⟩) (g7.cell (a := ⟨w5.heap.size, i, none⟩) (K0.out i v hv) (by simpa using HN.out)) (by simpa using HN.out)
  have q0 := k1 0 _ rfl
  have q1 := k1 1 _ rfl
  have q2 := k1 2 _ rfl
  clear k1
  go_wp2_with fail
  refine (c9 _ _ h8).mono ?_; rintro e w9 ⟨rfl, g9⟩
  go_wp2
  go_ret
  have gs : (w.heap.size : Nat) ≤ w.heap.size := Nat.le_refl _
  have T := only_trans (only_trans (only_trans (only_trans (only_trans (only_trans (only_alloc (only_trans (only_trans (only_trans (only_trans (only_trans g0 g1 (fun j e => .inl (by injection e with e; omega))) g2 (fun j e => .inl (by injection e with e; omega))) g3 (fun j e => .inl (by injection e with e; omega))) g4 (fun j e => .inl (by injection e with e; omega))) g5 (fun j e => .inl (by cases e))) _) g6 (fun j e => .inl (by injection e with e; omega))) g7 (fun j e => .inl (by injection e with e; omega))) g8 (fun j e => .inl (by injection e with e; omega))) g9 (fun j e => .inl (by injection e with e; omega))) (World.grownBy.refl _ none) (fun j e => by cases e)) (World.grownBy.refl _ none) (fun j e => by cases e)
  exact ⟨rfl, T⟩
end Go.Proofs.Ytllicaibgjjidaa
