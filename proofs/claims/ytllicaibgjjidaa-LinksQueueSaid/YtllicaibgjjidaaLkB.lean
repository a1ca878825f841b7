import Derived.Test.YtllicaibgjjidaaLkA
import Derived.ScopeJumps
import Derived.WalkMore
namespace Go.Proofs.Ytllicaibgjjidaa
open Go.RowKit

theorem seek_no (p : Option Addr) (head : Int) (h : Lk.thr head = false ∨ p = none) (w : World) : Calls Try.prog 29 #[.pointer p, .int .i64 head] w fun e w' => e = .returned (.int .i64 (-1)) ∧ w = w' := by
  go_enter Try.func29, Try.ntmps29
  go_wp2
  refine wp_scope_jumps 0 (fun _ _ => False) (fun _ _ => 0) rfl ?_ (fun _ _ h => h.elim)
  go_wp2_with (go_at_call 43; refine (at_no p head h _).mono ?_; rintro e w' ⟨rfl, rfl⟩)
  simp only [Exit.jump]
  go_ret
  exact ⟨rfl, rfl⟩

theorem seekGo_stop {head : Int} (f : Nat → Int) (x m : Int) (h : Lk.tl f x ≠ 0 ∨ m = 64) : Lk.seekGo head (64 - m).toNat f x = (Lk.stop f head x, Lk.tl f x - 1) := by
  cases hn : (64 - m).toNat with
  | zero => rfl
  | succ n => unfold Lk.seekGo; rw [if_neg (by omega)]
theorem seekGo_go {head : Int} (f : Nat → Int) (x y m : Int) (_m0 : 0 ≤ m) (m1 : m < 64) (ht : Lk.tl f x = 0) (hy : Lk.nx f x = y + 1) (hx : Lk.thr y = true) :
    Lk.seekGo head (64 - m).toNat f x = Lk.seekGo head (64 - (m + 1)).toNat (Lk.upd f (y.toNat * 3 + 1) (x + 1)) y := by
  rw [show (64 - m).toNat = (64 - (m + 1)).toNat + 1 from by omega]
  conv => lhs; unfold Lk.seekGo
  rw [if_pos ht, hy, show y + 1 - 1 = y from by omega, if_pos hx]
theorem seekGo_end {head : Int} (f : Nat → Int) (x y m : Int) (_m0 : 0 ≤ m) (m1 : m < 64) (ht : Lk.tl f x = 0) (hy : Lk.nx f x = y + 1) (hx : Lk.thr y = false) :
    Lk.seekGo head (64 - m).toNat f x = (f, -1) := by
  rw [show (64 - m).toNat = (64 - (m + 1)).toNat + 1 from by omega]
  unfold Lk.seekGo
  rw [if_pos ht, hy, show y + 1 - 1 = y from by omega, hx]
  rfl

set_option maxHeartbeats 2000000 in
set_option maxRecDepth 100000 in
theorem seek_yes (b : Nat) (f : Nat → Int) (head : Int) (h0 : 0 ≤ head) (h1 : head < 64) (w : World) (h : Lnk w b f) (ok : Lk.Ok f) : Calls Try.prog 29 #[.pointer (some ⟨b, 0, none⟩), .int .i64 head] w fun e w' => e = .returned (.int .i64 (Lk.seek f head).2) ∧ Lnk w' b (Lk.seek f head).1 ∧ w.grownBy w' (some b) := by
  go_enter Try.func29, Try.ntmps29
  go_wp2
  refine wp_scope_jumps 0 (fun a' w' => ∃ (f' : Nat → Int) (x m : Int) (u8 u9 u10 u11 u12 u13 u14 u15 u16 u17 u18 u19 u20 u21 u22 u23 u24 u25 u26 u27 u28 u29 u30 u31 u32 u33 u34 u35 u36 u37 u38 u39 u40 u41 u42 u43 u44 u45 u46 u47 u48 u49 u50 u51 u52 u53 u54 u55 u56 u57 u58 u59 u60 : Value), a' = { tmps := #[.pointer (some ⟨b, 0, none⟩), .int .i64 head, undef, undef, .int .i64 0, .pointer (some ⟨b, head.toNat * 3, none⟩), .int .i64 x, .int .i64 m, u8, u9, u10, u11, u12, u13, u14, u15, u16, u17, u18, u19, u20, u21, u22, u23, u24, u25, u26, u27, u28, u29, u30, u31, u32, u33, u34, u35, u36, u37, u38, u39, u40, u41, u42, u43, u44, u45, u46, u47, u48, u49, u50, u51, u52, u53, u54, u55, u56, u57, u58, u59, u60], defers := [] } ∧ Lnk w' b f' ∧ Lk.Ok f' ∧ w.grownBy w' (some b) ∧ 0 ≤ x ∧ x < 64 ∧ 0 ≤ m ∧ m ≤ 64 ∧ Hid (Lk.seekGo head (64 - m).toNat f' x = Lk.seek f head)) (fun a' _ => (64 - intOf (a'.tmps.getD 7 undef)).toNat) rfl ?_ ?_
  · obtain ⟨f', x, m, x0, x1, m0, mm, h', ok', hgr, hg, ex, em⟩ : ∃ (f' : Nat → Int) (x m : Int), 0 ≤ x ∧ x < 64 ∧ 0 ≤ m ∧ m ≤ 64 ∧ Lnk w b f' ∧ Lk.Ok f' ∧ w.grownBy w (some b) ∧ Hid (Lk.seekGo head (64 - m).toNat f' x = Lk.seek f head) ∧ head = x ∧ m = 0 :=
      ⟨f, head, 0, h0, h1, by decide, by decide, h, ok, World.grownBy.refl _ _, (by show _ = _; unfold Lk.seek; rw [if_pos ((Lk.thr_iff head).2 ⟨h0, h1⟩)]; rfl), rfl, rfl⟩
    subst ex
    subst em
    have ct : w.cell? ⟨b, head.toNat * 3 + 2, none⟩ = some (.int .i64 (Lk.tl f' head)) := h'.cell _ (by omega)
    obtain ⟨y, hy⟩ : ∃ y, Lk.nx f' head = y + 1 := ⟨Lk.nx f' head - 1, by omega⟩
    have cn : w.cell? ⟨b, head.toNat * 3, none⟩ = some (.int .i64 (y + 1)) := hy ▸ h'.cell _ (by omega)
    have ch : w.cell? ⟨b, head.toNat * 3 + 2, none⟩ = some (.int .i64 (Lk.tl f' head)) := h'.cell _ (by omega)
    have fh := h'.free (head.toNat * 3 + 2)
    have ot : 0 ≤ Lk.tl f' head := (ok' _).1
    have ot' : Lk.tl f' head ≤ 64 := (ok' _).2
    have on : 0 ≤ y + 1 := hy ▸ (ok' _).1
    have on' : y + 1 ≤ 64 := hy ▸ (ok' _).2
    have HY : Hid (Lk.nx f' head = y + 1) := hy
    clear hy
    by_cases hst : Lk.tl f' head ≠ 0 ∨ (0 : Int) = (64 : Int)
    · have e1 : Hid (Lk.seek f head = (Lk.stop f' head head, Lk.tl f' head - 1)) := hg.out.symm.trans (seekGo_stop f' head 0 hst)
      have hL : Hid (Lnk (w.setCell ⟨b, head.toNat * 3 + 2, none⟩ (.int .i64 (Lk.tl f' head))) b (Lk.stop f' head head)) := h'.set (by omega) _
      have hG : Hid (w.grownBy (w.setCell ⟨b, head.toNat * 3 + 2, none⟩ (.int .i64 (Lk.tl f' head))) (some b)) := only_setCell (p := ⟨b, head.toNat * 3 + 2, none⟩) hgr (.inl rfl) _
      have ht : Lk.tl f' head ≠ 0 := by omega
      have b1 : (Lk.tl f' head != 0) = true := by simp [ht]
      clear ht hst hg hgr h' ok'
      go_wp2_with (go_at_call 43; first | ((with_reducible refine (at_yes b head x0 x1 _).mono ?_); rintro e w'' ⟨rfl, rfl⟩) | ((with_reducible refine (at_yes b y n0 n1 _).mono ?_); rintro e w'' ⟨rfl, rfl⟩) | ((with_reducible refine (at_no _ y (.inl hx) _).mono ?_); rintro e w'' ⟨rfl, rfl⟩) | ((with_reducible refine (at_yes b head h0 h1 _).mono ?_); rintro e w'' ⟨rfl, rfl⟩))
      go_step3
      go_wp2_with (go_at_call 43; first | ((with_reducible refine (at_yes b head x0 x1 _).mono ?_); rintro e w'' ⟨rfl, rfl⟩) | ((with_reducible refine (at_yes b y n0 n1 _).mono ?_); rintro e w'' ⟨rfl, rfl⟩) | ((with_reducible refine (at_no _ y (.inl hx) _).mono ?_); rintro e w'' ⟨rfl, rfl⟩) | ((with_reducible refine (at_yes b head h0 h1 _).mono ?_); rintro e w'' ⟨rfl, rfl⟩))
      simp only [Exit.jump]
      go_ret
      rw [e1.out]; exact ⟨rfl, hL.out, hG.out⟩
    · have ht : Lk.tl f' head = 0 := by omega
      have b1 : (Lk.tl f' head != 0) = false := by simp [ht]
      have m1 : (0 : Int) < 64 := by omega
      by_cases hx : Lk.thr y = true
      · obtain ⟨n0, n1⟩ := (Lk.thr_iff _).1 hx
        have e1 : Hid (Lk.seekGo head (64 - ((0 : Int) + 1)).toNat (Lk.upd f' (y.toNat * 3 + 1) (head + 1)) y = Lk.seek f head) := (seekGo_go f' head y 0 m0 m1 ht HY.out hx).symm.trans hg.out
        have cp : w.cell? ⟨b, y.toNat * 3 + 1, none⟩ = some (.int .i64 (Lk.pv f' y)) := h'.cell _ (by omega)
        have fp := h'.free (y.toNat * 3 + 1)
        have cn' : (w.setCell ⟨b, y.toNat * 3 + 1, none⟩ (.int .i64 (head + 1))).cell? ⟨b, head.toNat * 3, none⟩ = some (.int .i64 (y + 1)) := by rw [World.cell?_setCell_other _ _ _ _ (by intro e; injection e with _ e; omega)]; exact cn
        have hL : Hid (Lnk (w.setCell ⟨b, y.toNat * 3 + 1, none⟩ (.int .i64 (head + 1))) b (Lk.upd f' (y.toNat * 3 + 1) (head + 1))) := h'.set (by omega) _
        have hG : Hid (w.grownBy (w.setCell ⟨b, y.toNat * 3 + 1, none⟩ (.int .i64 (head + 1))) (some b)) := only_setCell (p := ⟨b, y.toNat * 3 + 1, none⟩) hgr (.inl rfl) _
        have hO : Hid (Lk.Ok (Lk.upd f' (y.toNat * 3 + 1) (head + 1))) := ok'.upd _ (by omega) (by omega)
        clear ht hst hg hgr h' ok' hx
        go_wp2_with (go_at_call 43; first | ((with_reducible refine (at_yes b head x0 x1 _).mono ?_); rintro e w'' ⟨rfl, rfl⟩) | ((with_reducible refine (at_yes b y n0 n1 _).mono ?_); rintro e w'' ⟨rfl, rfl⟩) | ((with_reducible refine (at_no _ y (.inl hx) _).mono ?_); rintro e w'' ⟨rfl, rfl⟩) | ((with_reducible refine (at_yes b head h0 h1 _).mono ?_); rintro e w'' ⟨rfl, rfl⟩))
        go_step3
        go_wp2_with (go_at_call 43; first | ((with_reducible refine (at_yes b head x0 x1 _).mono ?_); rintro e w'' ⟨rfl, rfl⟩) | ((with_reducible refine (at_yes b y n0 n1 _).mono ?_); rintro e w'' ⟨rfl, rfl⟩) | ((with_reducible refine (at_no _ y (.inl hx) _).mono ?_); rintro e w'' ⟨rfl, rfl⟩) | ((with_reducible refine (at_yes b head h0 h1 _).mono ?_); rintro e w'' ⟨rfl, rfl⟩))
        go_step3
        exact ⟨rfl, _, _, _, _, _, _, _, _, _, _, _, _, _, _, _, _, _, _, _, _, _, _, _, _, _, _, _, _, _, _, _, _, _, _, _, _, _, _, _, _, _, _, _, _, _, _, _, _, _, _, _, _, _, _, _, _, rfl, hL.out, hO.out, hG.out, n0, n1, by omega, by omega, e1⟩
      · have hx' : Lk.thr y = false := by simpa using hx
        have e1 : Hid (Lk.seek f head = (f', -1)) := hg.out.symm.trans (seekGo_end f' head y 0 m0 m1 ht HY.out hx')
        clear ht hst hg hx
        have hx := hx'
        have hL : Hid (Lnk w b f') := h'
        have hG : Hid (w.grownBy w (some b)) := hgr
        clear hx' hgr h' ok'
        go_wp2_with (go_at_call 43; first | ((with_reducible refine (at_yes b head x0 x1 _).mono ?_); rintro e w'' ⟨rfl, rfl⟩) | ((with_reducible refine (at_yes b y n0 n1 _).mono ?_); rintro e w'' ⟨rfl, rfl⟩) | ((with_reducible refine (at_no _ y (.inl hx) _).mono ?_); rintro e w'' ⟨rfl, rfl⟩) | ((with_reducible refine (at_yes b head h0 h1 _).mono ?_); rintro e w'' ⟨rfl, rfl⟩))
        go_step3
        go_wp2_with (go_at_call 43; first | ((with_reducible refine (at_yes b head x0 x1 _).mono ?_); rintro e w'' ⟨rfl, rfl⟩) | ((with_reducible refine (at_yes b y n0 n1 _).mono ?_); rintro e w'' ⟨rfl, rfl⟩) | ((with_reducible refine (at_no _ y (.inl hx) _).mono ?_); rintro e w'' ⟨rfl, rfl⟩) | ((with_reducible refine (at_yes b head h0 h1 _).mono ?_); rintro e w'' ⟨rfl, rfl⟩))
        simp only [Exit.jump]
        go_ret
        rw [e1.out]; exact ⟨rfl, hL.out, hG.out⟩
  · rintro a' w' ⟨f', x, m, u8, u9, u10, u11, u12, u13, u14, u15, u16, u17, u18, u19, u20, u21, u22, u23, u24, u25, u26, u27, u28, u29, u30, u31, u32, u33, u34, u35, u36, u37, u38, u39, u40, u41, u42, u43, u44, u45, u46, u47, u48, u49, u50, u51, u52, u53, u54, u55, u56, u57, u58, u59, u60, rfl, h', ok', hgr, x0, x1, m0, mm, hg⟩
    have ct : w'.cell? ⟨b, x.toNat * 3 + 2, none⟩ = some (.int .i64 (Lk.tl f' x)) := h'.cell _ (by omega)
    obtain ⟨y, hy⟩ : ∃ y, Lk.nx f' x = y + 1 := ⟨Lk.nx f' x - 1, by omega⟩
    have cn : w'.cell? ⟨b, x.toNat * 3, none⟩ = some (.int .i64 (y + 1)) := hy ▸ h'.cell _ (by omega)
    have ch : w'.cell? ⟨b, head.toNat * 3 + 2, none⟩ = some (.int .i64 (Lk.tl f' head)) := h'.cell _ (by omega)
    have fh := h'.free (head.toNat * 3 + 2)
    have ot : 0 ≤ Lk.tl f' x := (ok' _).1
    have ot' : Lk.tl f' x ≤ 64 := (ok' _).2
    have on : 0 ≤ y + 1 := hy ▸ (ok' _).1
    have on' : y + 1 ≤ 64 := hy ▸ (ok' _).2
    have HY : Hid (Lk.nx f' x = y + 1) := hy
    clear hy
    by_cases hst : Lk.tl f' x ≠ 0 ∨ m = (64 : Int)
    · have e1 : Hid (Lk.seek f head = (Lk.stop f' head x, Lk.tl f' x - 1)) := hg.out.symm.trans (seekGo_stop f' x m hst)
      have hL : Hid (Lnk (w'.setCell ⟨b, head.toNat * 3 + 2, none⟩ (.int .i64 (Lk.tl f' x))) b (Lk.stop f' head x)) := h'.set (by omega) _
      have hG : Hid (w.grownBy (w'.setCell ⟨b, head.toNat * 3 + 2, none⟩ (.int .i64 (Lk.tl f' x))) (some b)) := only_setCell (p := ⟨b, head.toNat * 3 + 2, none⟩) hgr (.inl rfl) _
      by_cases ht : Lk.tl f' x = 0
      · obtain rfl : m = 64 := by omega
        have b1 : (Lk.tl f' x != 0) = false := by simp [ht]
        clear ht hst hg hgr h' ok'
        go_wp2_with (go_at_call 43; first | ((with_reducible refine (at_yes b x x0 x1 _).mono ?_); rintro e w'' ⟨rfl, rfl⟩) | ((with_reducible refine (at_yes b y n0 n1 _).mono ?_); rintro e w'' ⟨rfl, rfl⟩) | ((with_reducible refine (at_no _ y (.inl hx) _).mono ?_); rintro e w'' ⟨rfl, rfl⟩) | ((with_reducible refine (at_yes b head h0 h1 _).mono ?_); rintro e w'' ⟨rfl, rfl⟩))
        simp only [Exit.jump]
        go_ret
        rw [e1.out]; exact ⟨rfl, hL.out, hG.out⟩
      · have b1 : (Lk.tl f' x != 0) = true := by simp [ht]
        clear ht hst hg hgr h' ok'
        go_wp2_with (go_at_call 43; first | ((with_reducible refine (at_yes b x x0 x1 _).mono ?_); rintro e w'' ⟨rfl, rfl⟩) | ((with_reducible refine (at_yes b y n0 n1 _).mono ?_); rintro e w'' ⟨rfl, rfl⟩) | ((with_reducible refine (at_no _ y (.inl hx) _).mono ?_); rintro e w'' ⟨rfl, rfl⟩) | ((with_reducible refine (at_yes b head h0 h1 _).mono ?_); rintro e w'' ⟨rfl, rfl⟩))
        simp only [Exit.jump]
        go_ret
        rw [e1.out]; exact ⟨rfl, hL.out, hG.out⟩
    · obtain ⟨ht, hm⟩ : Lk.tl f' x = 0 ∧ m ≠ 64 := by constructor <;> omega
      have b1 : (Lk.tl f' x != 0) = false := by simp [ht]
      have b2 : (m == 64) = false := by simp [hm]
      have m1 : m < 64 := by omega
      by_cases hx : Lk.thr y = true
      · obtain ⟨n0, n1⟩ := (Lk.thr_iff _).1 hx
        have e1 : Hid (Lk.seekGo head (64 - (m + 1)).toNat (Lk.upd f' (y.toNat * 3 + 1) (x + 1)) y = Lk.seek f head) := (seekGo_go f' x y m m0 m1 ht HY.out hx).symm.trans hg.out
        have cp : w'.cell? ⟨b, y.toNat * 3 + 1, none⟩ = some (.int .i64 (Lk.pv f' y)) := h'.cell _ (by omega)
        have fp := h'.free (y.toNat * 3 + 1)
        have cn' : (w'.setCell ⟨b, y.toNat * 3 + 1, none⟩ (.int .i64 (x + 1))).cell? ⟨b, x.toNat * 3, none⟩ = some (.int .i64 (y + 1)) := by rw [World.cell?_setCell_other _ _ _ _ (by intro e; injection e with _ e; omega)]; exact cn
        have hL : Hid (Lnk (w'.setCell ⟨b, y.toNat * 3 + 1, none⟩ (.int .i64 (x + 1))) b (Lk.upd f' (y.toNat * 3 + 1) (x + 1))) := h'.set (by omega) _
        have hG : Hid (w.grownBy (w'.setCell ⟨b, y.toNat * 3 + 1, none⟩ (.int .i64 (x + 1))) (some b)) := only_setCell (p := ⟨b, y.toNat * 3 + 1, none⟩) hgr (.inl rfl) _
        have hO : Hid (Lk.Ok (Lk.upd f' (y.toNat * 3 + 1) (x + 1))) := ok'.upd _ (by omega) (by omega)
        clear ht hm hst hg hgr h' ok' hx
        go_wp2_with (go_at_call 43; first | ((with_reducible refine (at_yes b x x0 x1 _).mono ?_); rintro e w'' ⟨rfl, rfl⟩) | ((with_reducible refine (at_yes b y n0 n1 _).mono ?_); rintro e w'' ⟨rfl, rfl⟩) | ((with_reducible refine (at_no _ y (.inl hx) _).mono ?_); rintro e w'' ⟨rfl, rfl⟩) | ((with_reducible refine (at_yes b head h0 h1 _).mono ?_); rintro e w'' ⟨rfl, rfl⟩))
        go_step3
        exact ⟨rfl, ⟨_, _, _, _, _, _, _, _, _, _, _, _, _, _, _, _, _, _, _, _, _, _, _, _, _, _, _, _, _, _, _, _, _, _, _, _, _, _, _, _, _, _, _, _, _, _, _, _, _, _, _, _, _, _, _, _, rfl, hL.out, hO.out, hG.out, n0, n1, by omega, by omega, e1⟩, by simp [intOf]; omega⟩
      · have hx' : Lk.thr y = false := by simpa using hx
        have e1 : Hid (Lk.seek f head = (f', -1)) := hg.out.symm.trans (seekGo_end f' x y m m0 m1 ht HY.out hx')
        clear ht hm hst hg hx
        have hx := hx'
        have hL : Hid (Lnk w' b f') := h'
        have hG : Hid (w.grownBy w' (some b)) := hgr
        clear hx' hgr h' ok'
        go_wp2_with (go_at_call 43; first | ((with_reducible refine (at_yes b x x0 x1 _).mono ?_); rintro e w'' ⟨rfl, rfl⟩) | ((with_reducible refine (at_yes b y n0 n1 _).mono ?_); rintro e w'' ⟨rfl, rfl⟩) | ((with_reducible refine (at_no _ y (.inl hx) _).mono ?_); rintro e w'' ⟨rfl, rfl⟩) | ((with_reducible refine (at_yes b head h0 h1 _).mono ?_); rintro e w'' ⟨rfl, rfl⟩))
        simp only [Exit.jump]
        go_ret
        rw [e1.out]; exact ⟨rfl, hL.out, hG.out⟩
end Go.Proofs.Ytllicaibgjjidaa
