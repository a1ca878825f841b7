import Derived.Test.YtllicaibgjjidaaLkA
import Derived.Lib.Hide
namespace Go.Proofs.Ytllicaibgjjidaa
open Go.RowKit

theorem is_any (t : Int) (w : World) : Calls Try.prog 47 #[.int .i64 t] w fun e w' => e = .returned (.bool (Lk.thr t)) ∧ w = w' := by
  go_enter Try.func47, Try.ntmps47
  go_wp2
  all_goals go_ret
  all_goals refine ⟨congrArg (fun x => Ending.returned (.bool x)) ?_, rfl⟩
  all_goals (rw [Bool.eq_iff_iff, Lk.thr_iff]; simp; try omega)

theorem rpush_any (b : Nat) (f : Nat → Int) (t head : Int) (w : World) (h : Lnk w b f) : Calls Try.prog 39 #[.pointer (some ⟨b, 0, none⟩), .int .i64 t, .int .i64 head] w fun e w' => e = .returned (.tuple #[]) ∧ Lnk w' b (Lk.push f t head) ∧ w.grownBy w' (some b) := by
  by_cases ht : Lk.thr t = true
  · obtain ⟨h0, h1⟩ := (Lk.thr_iff t).1 ht
    have c0 := h.cell (t.toNat * 3) (by omega)
    have c1 := h.cell (t.toNat * 3 + 1) (by omega)
    have c2 := h.cell (t.toNat * 3 + 2) (by omega)
    have f0 := h.free (t.toNat * 3)
    have f1 := h.free (t.toNat * 3 + 1)
    have f2 := h.free (t.toNat * 3 + 2)
    by_cases hh : Lk.thr head = true
    · obtain ⟨k0, k1⟩ := (Lk.thr_iff head).1 hh
      have e1 : Hid (Lk.push f t head = Lk.set3 f t (head + 1) 0 0) := by show _ = _; unfold Lk.push; rw [if_pos ht, if_pos hh]
      have e2 : Hid (Lk.set3 (Lk.set3 f t 0 0 (t + 1)) t (head + 1) 0 0 = Lk.set3 f t (head + 1) 0 0) := Lk.set3_set3 _ _ _ _ _ _ _ _
      have hL : Hid (Lnk ((((((w.setCell ⟨b, t.toNat * 3, none⟩ (.int .i64 0)).setCell ⟨b, t.toNat * 3 + 1, none⟩ (.int .i64 0)).setCell ⟨b, t.toNat * 3 + 2, none⟩ (.int .i64 (t + 1))).setCell ⟨b, t.toNat * 3, none⟩ (.int .i64 (head + 1))).setCell ⟨b, t.toNat * 3 + 1, none⟩ (.int .i64 0)).setCell ⟨b, t.toNat * 3 + 2, none⟩ (.int .i64 0)) b (Lk.push f t head)) := by
        rw [e1.out, ← e2.out]
        exact lnk_set3 (lnk_set3 h t _ _ _ h0 h1) t _ _ _ h0 h1
      clear e1 e2
      go_enter Try.func39, Try.ntmps39
      go_wp2_with (go_at_call 47; first | ((with_reducible refine (is_any t _).mono ?_); rintro e w' ⟨rfl, rfl⟩) | ((with_reducible refine (is_any head _).mono ?_); rintro e w' ⟨rfl, rfl⟩))
      go_end0
      exact ⟨rfl, hL.out, only_trans (only_set3 _ _ _ _ _ _ _ _) (only_set3 _ _ _ _ _ _ _ _) (fun j e => .inr e)⟩
    · have hh' : Lk.thr head = false := by simpa using hh
      have e1 : Hid (Lk.push f t head = Lk.set3 f t 0 0 (t + 1)) := by show _ = _; unfold Lk.push; rw [if_pos ht, if_neg hh]
      clear hh
      go_enter Try.func39, Try.ntmps39
      go_wp2_with (go_at_call 47; first | ((with_reducible refine (is_any t _).mono ?_); rintro e w' ⟨rfl, rfl⟩) | ((with_reducible refine (is_any head _).mono ?_); rintro e w' ⟨rfl, rfl⟩))
      go_end0
      rw [e1.out]
      exact ⟨rfl, lnk_set3 h t _ _ _ h0 h1, only_set3 _ _ _ _ _ _ _ _⟩
  · have e1 : Hid (Lk.push f t head = f) := by show _ = _; unfold Lk.push; rw [if_neg ht]
    have ht' : Lk.thr t = false := by simpa using ht
    clear ht
    go_enter Try.func39, Try.ntmps39
    go_wp2_with (go_at_call 47; refine (is_any t _).mono ?_; rintro e w' ⟨rfl, rfl⟩)
    refine bodyPost_ret (results_none rfl _ _ _) rfl ?_
    rw [e1.out]
    exact ⟨rfl, h, World.grownBy.refl _ _⟩

theorem rAt_no (p : Option Addr) (t : Int) (h : Lk.thr t = false) (w : World) : Calls Try.prog 42 #[.pointer p, .int .i64 t] w fun e w' => e = .returned (.tuple #[.int .i64 (-1), .int .i64 (-1), .int .i64 (-1)]) ∧ w = w' := by
  go_enter Try.func42, Try.ntmps42
  go_wp2_with (go_at_call 47; refine (is_any t _).mono ?_; rintro e w' ⟨rfl, rfl⟩)
  go_ret3
  exact ⟨rfl, rfl⟩
theorem rAt_yes (b : Nat) (f : Nat → Int) (t : Int) (h0 : 0 ≤ t) (h1 : t < 64) (w : World) (h : Lnk w b f) (ok : Lk.Ok f) :
    Calls Try.prog 42 #[.pointer (some ⟨b, 0, none⟩), .int .i64 t] w fun e w' => e = .returned (.tuple #[.int .i64 (Lk.nx f t - 1), .int .i64 (Lk.pv f t - 1), .int .i64 (Lk.tl f t - 1)]) ∧ ∃ n, w' = w.drewN n := by
  have ht := (Lk.thr_iff t).2 ⟨h0, h1⟩
  have c0 : w.cell? ⟨b, t.toNat * 3, none⟩ = some (.int .i64 (Lk.nx f t)) := h.cell _ (by omega)
  have c1 : w.cell? ⟨b, t.toNat * 3 + 1, none⟩ = some (.int .i64 (Lk.pv f t)) := h.cell _ (by omega)
  have c2 : w.cell? ⟨b, t.toNat * 3 + 2, none⟩ = some (.int .i64 (Lk.tl f t)) := h.cell _ (by omega)
  have o0 : 0 ≤ Lk.nx f t ∧ Lk.nx f t ≤ 64 := ok _
  have o1 : 0 ≤ Lk.pv f t ∧ Lk.pv f t ≤ 64 := ok _
  have o2 : 0 ≤ Lk.tl f t ∧ Lk.tl f t ≤ 64 := ok _
  obtain ⟨o0, p0⟩ := o0
  obtain ⟨o1, p1⟩ := o1
  obtain ⟨o2, p2⟩ := o2
  have w0 : IntKind.i64.wrap (Lk.nx f t - 1) = Lk.nx f t - 1 := IntWalk.i64_in _ (by omega)
  have w1 : IntKind.i64.wrap (Lk.pv f t - 1) = Lk.pv f t - 1 := IntWalk.i64_in _ (by omega)
  have w2 : IntKind.i64.wrap (Lk.tl f t - 1) = Lk.tl f t - 1 := IntWalk.i64_in _ (by omega)
  go_enter Try.func42, Try.ntmps42
  go_wp2_with (go_at_call 47; refine (is_any t _).mono ?_; rintro e w' ⟨rfl, rfl⟩)
  go_quiet (fail)
  go_wp2
  go_ret3
  exact ⟨rfl, _, rfl⟩
theorem rPrev_no (p : Option Addr) (t : Int) (h : Lk.thr t = false) (w : World) : Calls Try.prog 48 #[.pointer p, .int .i64 t] w fun e w' => e = .returned (.int .i64 (-1)) ∧ w = w' := by
  go_enter Try.func48, Try.ntmps48
  go_wp2_with (go_at_call 42; refine (rAt_no _ t h _).mono ?_; rintro e w' ⟨rfl, rfl⟩)
  go_ret
  exact ⟨rfl, rfl⟩
theorem rPrev_yes (b : Nat) (f : Nat → Int) (t : Int) (h0 : 0 ≤ t) (h1 : t < 64) (w : World) (h : Lnk w b f) (ok : Lk.Ok f) :
    Calls Try.prog 48 #[.pointer (some ⟨b, 0, none⟩), .int .i64 t] w fun e w' => e = .returned (.int .i64 (Lk.pv f t - 1)) ∧ ∃ n, w' = w.drewN n := by
  go_enter Try.func48, Try.ntmps48
  go_wp2_with (go_at_call 42; refine (rAt_yes b f t h0 h1 _ h ok).mono ?_; rintro e w' ⟨rfl, n, rfl⟩)
  go_ret
  exact ⟨rfl, _, rfl⟩

theorem rcut_any (b : Nat) (f : Nat → Int) (head tail : Int) (w : World) (h : Lnk w b f) (ok : Lk.Ok f) : Calls Try.prog 41 #[.pointer (some ⟨b, 0, none⟩), .int .i64 head, .int .i64 tail] w fun e w' => e = .returned (.int .i64 (Lk.cut f head tail).2) ∧ Lnk w' b (Lk.cut f head tail).1 ∧ w.grownBy w' (some b) := by
  by_cases h2 : Lk.thr tail = true
  · obtain ⟨t0, t1⟩ := (Lk.thr_iff tail).1 h2
    obtain ⟨y, hy⟩ : ∃ y, Lk.pv f tail = y + 1 := ⟨Lk.pv f tail - 1, by omega⟩
    have o1 : 0 ≤ y + 1 := hy ▸ (ok _).1
    have p1 : y + 1 ≤ 64 := hy ▸ (ok _).2
    have C := rPrev_yes b f tail t0 t1 w h ok
    rw [hy, show y + 1 - 1 = y from by omega] at C
    have HC := Lib.hid C
    clear C
    by_cases h1 : Lk.thr head = true
    · obtain ⟨k0, k1⟩ := (Lk.thr_iff head).1 h1
      have ct : ∀ n, (w.drewN n).cell? ⟨b, head.toNat * 3 + 2, none⟩ = some (.int .i64 (Lk.tl f head)) := fun n => (h.drewN n).cell _ (by omega)
      have ft := fun n => (h.drewN n).free (head.toNat * 3 + 2)
      by_cases hz : y < 0
      · obtain rfl : y = -1 := by omega
        have e1 : Hid (Lk.cut f head tail = (f, -1)) := by show _ = _; unfold Lk.cut; rw [h1, h2, hy]; rfl
        clear hy
        go_enter Try.func41, Try.ntmps41
        go_wp2_with (first | (go_at_call 48; refine HC.out.mono ?_; rintro e w' ⟨rfl, n, rfl⟩) | (go_at_call 47; refine (is_any head _).mono ?_; rintro e w' ⟨rfl, rfl⟩))
        go_ret
        rw [e1.out]
        exact ⟨rfl, h.drewN _, only_drewN (World.grownBy.refl _ _) _⟩
      · have e1 : Hid (Lk.cut f head tail = (Lk.upd f (head.toNat * 3 + 2) (y + 1), y)) := by
          show _ = _; unfold Lk.cut; rw [h1, h2, hy]; simp; omega
        clear hy
        go_enter Try.func41, Try.ntmps41
        go_wp2_with (first | (go_at_call 48; refine HC.out.mono ?_; rintro e w' ⟨rfl, n, rfl⟩) | (go_at_call 47; refine (is_any head _).mono ?_; rintro e w' ⟨rfl, rfl⟩))
        go_ret
        rw [e1.out]
        exact ⟨rfl, (h.drewN _).set (by omega) _, only_setCell (p := ⟨b, head.toNat * 3 + 2, none⟩) (only_drewN (World.grownBy.refl _ _) _) (.inl rfl) _⟩
    · have h1' : Lk.thr head = false := by simpa using h1
      have e1 : Hid (Lk.cut f head tail = (f, -1)) := by show _ = _; unfold Lk.cut; rw [h1']; rfl
      clear h1 hy
      go_enter Try.func41, Try.ntmps41
      go_wp2_with (first | (go_at_call 48; refine HC.out.mono ?_; rintro e w' ⟨rfl, n, rfl⟩) | (go_at_call 47; refine (is_any head _).mono ?_; rintro e w' ⟨rfl, rfl⟩))
      go_ret
      rw [e1.out]
      exact ⟨rfl, h.drewN _, only_drewN (World.grownBy.refl _ _) _⟩
  · have h2' : Lk.thr tail = false := by simpa using h2
    have e1 : Hid (Lk.cut f head tail = (f, -1)) := by show _ = _; unfold Lk.cut; rw [h2']; simp
    clear h2
    by_cases h1 : Lk.thr head = true
    all_goals
      (try have h1' : Lk.thr head = false := by simpa using h1)
      go_enter Try.func41, Try.ntmps41
      go_wp2_with (first | (go_at_call 48; refine (rPrev_no _ tail h2' _).mono ?_; rintro e w' ⟨rfl, rfl⟩) | (go_at_call 47; refine (is_any head _).mono ?_; rintro e w' ⟨rfl, rfl⟩))
      go_ret
      rw [e1.out]
      exact ⟨rfl, h, World.grownBy.refl _ _⟩
end Go.Proofs.Ytllicaibgjjidaa
