import Derived.Test.YtllicaibgjjidaaRows
import Derived.Test.YtllicaibgjjidaaLkMem
import Derived.WalkKit
import Derived.WalkSpells
import Derived.WalkLawsBesides
import Derived.Deep.QuietTactic
import Derived.BigQuiet
namespace Go.Proofs.Ytllicaibgjjidaa
open Go.RowKit

theorem threaded_any (t : Int) (w : World) : Calls Try.prog 44 #[.int .i64 t] w fun e w' => e = .returned (.bool (Lk.thr t)) ∧ w = w' := by
  go_enter Try.func44, Try.ntmps44
  go_wp2
  all_goals go_ret
  all_goals exact ⟨by simp [Lk.thr]; try omega, rfl⟩

theorem at_yes (b : Nat) (t : Int) (h0 : 0 ≤ t) (h1 : t < 64) (w : World) : Calls Try.prog 43 #[.pointer (some ⟨b, 0, none⟩), .int .i64 t] w fun e w' => e = .returned (.pointer (some ⟨b, t.toNat * 3, none⟩)) ∧ w = w' := by
  have e : Lk.thr t = true := (Lk.thr_iff t).2 ⟨h0, h1⟩
  go_enter Try.func43, Try.ntmps43
  go_wp2_with (go_at_call 44; refine (threaded_any t _).mono ?_; rintro e w' ⟨rfl, rfl⟩)
  go_ret
  exact ⟨rfl, rfl⟩
theorem at_no (p : Option Addr) (t : Int) (h : Lk.thr t = false ∨ p = none) (w : World) : Calls Try.prog 43 #[.pointer p, .int .i64 t] w fun e w' => e = .returned (.pointer none) ∧ w = w' := by
  rcases p with _ | p
  · go_enter Try.func43, Try.ntmps43
    go_wp2
    go_ret
    exact ⟨rfl, rfl⟩
  · have e : Lk.thr t = false := by simpa using h
    clear h
    go_enter Try.func43, Try.ntmps43
    go_wp2_with (go_at_call 44; refine (threaded_any t _).mono ?_; rintro e w' ⟨rfl, rfl⟩)
    go_ret
    exact ⟨rfl, rfl⟩

theorem lnk_set3 {w : World} {b : Nat} {f : Nat → Int} (h : Lnk w b f) (t x y z : Int) (h0 : 0 ≤ t) (h1 : t < 64) :
    Lnk (((w.setCell ⟨b, t.toNat * 3, none⟩ (.int .i64 x)).setCell ⟨b, t.toNat * 3 + 1, none⟩ (.int .i64 y)).setCell ⟨b, t.toNat * 3 + 2, none⟩ (.int .i64 z)) b (Lk.set3 f t x y z) :=
  ((h.set (by omega) x).set (by omega) y).set (by omega) z
theorem only_set3 (w : World) (b : Nat) (i j k : Nat) (x y z : Value) : w.grownBy (((w.setCell ⟨b, i, none⟩ x).setCell ⟨b, j, none⟩ y).setCell ⟨b, k, none⟩ z) (some b) :=
  only_setCell (p := ⟨b, k, none⟩) (only_setCell (p := ⟨b, j, none⟩) (only_setCell (p := ⟨b, i, none⟩) (World.grownBy.refl w _) (.inl rfl) _) (.inl rfl) _) (.inl rfl) _

theorem push_any (b : Nat) (f : Nat → Int) (t head : Int) (w : World) (h : Lnk w b f) : Calls Try.prog 27 #[.pointer (some ⟨b, 0, none⟩), .int .i64 t, .int .i64 head] w fun e w' => e = .returned (.tuple #[]) ∧ Lnk w' b (Lk.push f t head) ∧ w.grownBy w' (some b) := by
  by_cases ht : Lk.thr t = true
  · obtain ⟨h0, h1⟩ := (Lk.thr_iff t).1 ht
    have c0 := h.cell (t.toNat * 3) (by omega)
    have c1 := h.cell (t.toNat * 3 + 1) (by omega)
    have c2 := h.cell (t.toNat * 3 + 2) (by omega)
    have f0 := h.free (t.toNat * 3)
    have f1 := h.free (t.toNat * 3 + 1)
    have f2 := h.free (t.toNat * 3 + 2)
    by_cases hh : Lk.thr head = true
    · obtain ⟨k0, k1⟩ := (Lk.thr_iff head).1 hh
      have e1 : Hid (Lk.push f t head = Lk.set3 f t (head + 1) 0 0) := by show _ = _; unfold Lk.push; rw [if_pos ht, if_pos hh]
      go_enter Try.func27, Try.ntmps27
      go_wp2_with (first | (go_at_call 43; refine (at_yes b t h0 h1 _).mono ?_; rintro e w' ⟨rfl, rfl⟩) | (go_at_call 44; refine (threaded_any head _).mono ?_; rintro e w' ⟨rfl, rfl⟩))
      go_end0
      rw [e1.out]
      exact ⟨rfl, lnk_set3 h t _ _ _ h0 h1, only_set3 _ _ _ _ _ _ _ _⟩
    · have hh' : Lk.thr head = false := by simpa using hh
      have e1 : Hid (Lk.push f t head = Lk.set3 f t 0 0 (t + 1)) := by show _ = _; unfold Lk.push; rw [if_pos ht, if_neg hh]
      clear hh
      go_enter Try.func27, Try.ntmps27
      go_wp2_with (first | (go_at_call 43; refine (at_yes b t h0 h1 _).mono ?_; rintro e w' ⟨rfl, rfl⟩) | (go_at_call 44; refine (threaded_any head _).mono ?_; rintro e w' ⟨rfl, rfl⟩))
      go_end0
      rw [e1.out]
      exact ⟨rfl, lnk_set3 h t _ _ _ h0 h1, only_set3 _ _ _ _ _ _ _ _⟩
  · have e1 : Hid (Lk.push f t head = f) := by show _ = _; unfold Lk.push; rw [if_neg ht]
    have ht' : Lk.thr t = false := by simpa using ht
    clear ht
    go_enter Try.func27, Try.ntmps27
    go_wp2_with (go_at_call 43; refine (at_no _ t (.inl ht') _).mono ?_; rintro e w' ⟨rfl, rfl⟩)
    go_end0
    rw [e1.out]
    exact ⟨rfl, h, World.grownBy.refl _ _⟩
theorem push_nil (t head : Int) (w : World) : Calls Try.prog 27 #[.pointer none, .int .i64 t, .int .i64 head] w fun e w' => e = .returned (.tuple #[]) ∧ w = w' := by
  go_enter Try.func27, Try.ntmps27
  go_wp2_with (go_at_call 43; refine (at_no _ t (.inr rfl) _).mono ?_; rintro e w' ⟨rfl, rfl⟩)
  go_end0
  exact ⟨rfl, rfl⟩

/-- What At tells. -/
def linkV (x y z : Int) : Value := .agg #[.int .i64 x, .int .i64 y, .int .i64 z]
theorem At_no (p : Option Addr) (t : Int) (h : Lk.thr t = false ∨ p = none) (w : World) : Calls Try.prog 28 #[.pointer p, .int .i64 t] w fun e w' => e = .returned (linkV (-1) (-1) (-1)) ∧ w.grownBy w' none := by
  go_enter Try.func28, Try.ntmps28
  go_wp2_with (go_at_call 43; refine (at_no p t h _).mono ?_; rintro e w' ⟨rfl, rfl⟩)
  refine bodyPost_ret (v := linkV (-1) (-1) (-1)) (by simp [linkV, results, Try.results28, go_sem]) rfl ⟨rfl, ?_⟩
  exact World.grownBy_alloc _ _ _
theorem At_yes (b : Nat) (f : Nat → Int) (t : Int) (h0 : 0 ≤ t) (h1 : t < 64) (w : World) (h : Lnk w b f) (ok : Lk.Ok f) :
    Calls Try.prog 28 #[.pointer (some ⟨b, 0, none⟩), .int .i64 t] w fun e w' => e = .returned (linkV (Lk.nx f t - 1) (Lk.pv f t - 1) (Lk.tl f t - 1)) ∧ w.grownBy w' none := by
  have c0 : w.cell? ⟨b, t.toNat * 3, none⟩ = some (.int .i64 (Lk.nx f t)) := h.cell _ (by omega)
  have c1 : w.cell? ⟨b, t.toNat * 3 + 1, none⟩ = some (.int .i64 (Lk.pv f t)) := h.cell _ (by omega)
  have c2 : w.cell? ⟨b, t.toNat * 3 + 2, none⟩ = some (.int .i64 (Lk.tl f t)) := h.cell _ (by omega)
  have o0 : 0 ≤ Lk.nx f t ∧ Lk.nx f t ≤ 64 := ok _
  have o1 : 0 ≤ Lk.pv f t ∧ Lk.pv f t ≤ 64 := ok _
  have o2 : 0 ≤ Lk.tl f t ∧ Lk.tl f t ≤ 64 := ok _
  obtain ⟨o0, p0⟩ := o0
  obtain ⟨o1, p1⟩ := o1
  obtain ⟨o2, p2⟩ := o2
  have hlt := h.lt
  go_enter Try.func28, Try.ntmps28
  go_wp2_with (go_at_call 43; refine (at_yes b t h0 h1 _).mono ?_; rintro e w' ⟨rfl, rfl⟩)
  go_region
  go_wp2
  refine bodyPost_ret (v := linkV (Lk.nx f t - 1) (Lk.pv f t - 1) (Lk.tl f t - 1)) (by simp [linkV, results, Try.results28, go_sem]) rfl ⟨rfl, ?_⟩
  exact only_drew (World.grownBy_alloc _ _ _)

theorem cut_any (b : Nat) (f : Nat → Int) (head tail : Int) (w : World) (h : Lnk w b f) (ok : Lk.Ok f) : Calls Try.prog 30 #[.pointer (some ⟨b, 0, none⟩), .int .i64 head, .int .i64 tail] w fun e w' => e = .returned (.int .i64 (Lk.cut f head tail).2) ∧ Lnk w' b (Lk.cut f head tail).1 ∧ w.grownBy w' (some b) := by
  by_cases h1 : Lk.thr head = true
  · obtain ⟨k0, k1⟩ := (Lk.thr_iff head).1 h1
    by_cases h2 : Lk.thr tail = true
    · obtain ⟨t0, t1⟩ := (Lk.thr_iff tail).1 h2
      have cp : w.cell? ⟨b, tail.toNat * 3 + 1, none⟩ = some (.int .i64 (Lk.pv f tail)) := h.cell _ (by omega)
      have ct : w.cell? ⟨b, head.toNat * 3 + 2, none⟩ = some (.int .i64 (Lk.tl f head)) := h.cell _ (by omega)
      have ft := h.free (head.toNat * 3 + 2)
      have o1 : 0 ≤ Lk.pv f tail := (ok _).1
      have p1 : Lk.pv f tail ≤ 64 := (ok _).2
      have hne : (⟨b, head.toNat * 3 + 2, none⟩ : Addr) ≠ ⟨b, tail.toNat * 3 + 1, none⟩ := by intro e; injection e with _ e; omega
      have cp' : ∀ v, (w.setCell ⟨b, head.toNat * 3 + 2, none⟩ v).cell? ⟨b, tail.toNat * 3 + 1, none⟩ = some (.int .i64 (Lk.pv f tail)) := fun v => by rw [World.cell?_setCell_other _ _ _ _ hne]; exact cp
      by_cases hz : Lk.pv f tail = 0
      · have e1 : Hid (Lk.cut f head tail = (f, -1)) := by show _ = _; unfold Lk.cut; rw [h1, h2, hz]; rfl
        have hzb : (Lk.pv f tail == 0) = true := by simpa using hz
        clear hz
        go_enter Try.func30, Try.ntmps30
        go_wp2_with (go_at_call 43; first | ((with_reducible refine (at_yes b head k0 k1 _).mono ?_); rintro e w' ⟨rfl, rfl⟩) | ((with_reducible refine (at_yes b tail t0 t1 _).mono ?_); rintro e w' ⟨rfl, rfl⟩))
        go_ret
        rw [e1.out]
        exact ⟨rfl, h, World.grownBy.refl _ _⟩
      · have e1 : Hid (Lk.cut f head tail = (Lk.upd f (head.toNat * 3 + 2) (Lk.pv f tail), Lk.pv f tail - 1)) := by show _ = _; unfold Lk.cut; rw [h1, h2]; simp [hz]
        have hzb : (Lk.pv f tail == 0) = false := by simpa using hz
        clear hz
        go_enter Try.func30, Try.ntmps30
        go_wp2_with (go_at_call 43; first | ((with_reducible refine (at_yes b head k0 k1 _).mono ?_); rintro e w' ⟨rfl, rfl⟩) | ((with_reducible refine (at_yes b tail t0 t1 _).mono ?_); rintro e w' ⟨rfl, rfl⟩))
        go_ret
        rw [e1.out]
        exact ⟨rfl, h.set (by omega) _, only_setCell (p := ⟨b, head.toNat * 3 + 2, none⟩) (World.grownBy.refl w _) (.inl rfl) _⟩
    · have h2' : Lk.thr tail = false := by simpa using h2
      have e1 : Hid (Lk.cut f head tail = (f, -1)) := by show _ = _; unfold Lk.cut; rw [h1, h2']; rfl
      clear h2
      go_enter Try.func30, Try.ntmps30
      go_wp2_with (go_at_call 43; first | ((with_reducible refine (at_yes b head k0 k1 _).mono ?_); rintro e w' ⟨rfl, rfl⟩) | ((with_reducible refine (at_no _ tail (.inl h2') _).mono ?_); rintro e w' ⟨rfl, rfl⟩))
      go_ret
      rw [e1.out]
      exact ⟨rfl, h, World.grownBy.refl _ _⟩
  · have h1' : Lk.thr head = false := by simpa using h1
    have e1 : Hid (Lk.cut f head tail = (f, -1)) := by show _ = _; unfold Lk.cut; rw [h1']; rfl
    clear h1
    by_cases h2 : Lk.thr tail = true
    · obtain ⟨t0, t1⟩ := (Lk.thr_iff tail).1 h2
      go_enter Try.func30, Try.ntmps30
      go_wp2_with (go_at_call 43; first | ((with_reducible refine (at_no _ head (.inl h1') _).mono ?_); rintro e w' ⟨rfl, rfl⟩) | ((with_reducible refine (at_yes b tail t0 t1 _).mono ?_); rintro e w' ⟨rfl, rfl⟩))
      go_ret
      rw [e1.out]
      exact ⟨rfl, h, World.grownBy.refl _ _⟩
    · have h2' : Lk.thr tail = false := by simpa using h2
      clear h2
      go_enter Try.func30, Try.ntmps30
      go_wp2_with (go_at_call 43; first | ((with_reducible refine (at_no _ head (.inl h1') _).mono ?_); rintro e w' ⟨rfl, rfl⟩) | ((with_reducible refine (at_no _ tail (.inl h2') _).mono ?_); rintro e w' ⟨rfl, rfl⟩))
      go_ret
      rw [e1.out]
      exact ⟨rfl, h, World.grownBy.refl _ _⟩
theorem cut_nil (head tail : Int) (w : World) : Calls Try.prog 30 #[.pointer none, .int .i64 head, .int .i64 tail] w fun e w' => e = .returned (.int .i64 (-1)) ∧ w = w' := by
  go_enter Try.func30, Try.ntmps30
  go_wp2_with (go_at_call 43; refine (at_no _ _ (.inr rfl) _).mono ?_; rintro e w' ⟨rfl, rfl⟩)
  go_ret
  exact ⟨rfl, rfl⟩
end Go.Proofs.Ytllicaibgjjidaa
