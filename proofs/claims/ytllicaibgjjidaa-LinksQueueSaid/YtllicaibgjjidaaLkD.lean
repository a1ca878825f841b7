import Derived.Test.YtllicaibgjjidaaLkB
import Derived.Test.YtllicaibgjjidaaLkC
namespace Go.Proofs.Ytllicaibgjjidaa
open Go.RowKit

theorem rseek_no (p : Option Addr) (head : Int) (h : Lk.thr head = false) (w : World) : Calls Try.prog 40 #[.pointer p, .int .i64 head] w fun e w' => e = .returned (.int .i64 (-1)) ∧ w = w' := by
  go_enter Try.func40, Try.ntmps40
  go_wp2_with (go_at_call 47; refine (is_any head _).mono ?_; rintro e w' ⟨rfl, rfl⟩)
  go_ret
  exact ⟨rfl, rfl⟩

set_option maxHeartbeats 1000000 in
set_option maxRecDepth 100000 in
theorem rseek_yes (b : Nat) (f : Nat → Int) (head : Int) (h0 : 0 ≤ head) (h1 : head < 64) (w : World) (h : Lnk w b f) (ok : Lk.Ok f) : Calls Try.prog 40 #[.pointer (some ⟨b, 0, none⟩), .int .i64 head] w fun e w' => e = .returned (.int .i64 (Lk.seek f head).2) ∧ Lnk w' b (Lk.seek f head).1 ∧ w.grownBy w' (some b) := by
  have hh := (Lk.thr_iff head).2 ⟨h0, h1⟩
  have hst : Hid (Lk.seekGo head (64 - (0 : Int)).toNat f head = Lk.seek f head) := by show _ = _; unfold Lk.seek; rw [if_pos hh]; rfl
  go_enter Try.func40, Try.ntmps40
  go_wp2_with (go_at_call 47; refine (is_any head _).mono ?_; rintro e w' ⟨rfl, rfl⟩)
  go_loopw [5, 6] (fun x n wr => ∃ (f' : Nat → Int) (y m : Int), x = .int .i64 y ∧ n = .int .i64 m ∧ Lnk wr b f' ∧ Lk.Ok f' ∧ w.grownBy wr (some b) ∧ 0 ≤ y ∧ y < 64 ∧ 0 ≤ m ∧ m ≤ 64 ∧ Hid (Lk.seekGo head (64 - m).toNat f' y = Lk.seek f head)) (fun _ n _ => (64 - intOf n).toNat)
  case atStart => exact ⟨f, head, 0, rfl, rfl, h, ok, World.grownBy.refl _ _, h0, h1, by decide, by decide, hst⟩
  case round =>
    clear hst h ok
    obtain ⟨f', x, m, rfl, rfl, h', ok', hgr, x0, x1, m0, mm, hg⟩ := hrel
    have ct : wr.cell? ⟨b, x.toNat * 3 + 2, none⟩ = some (.int .i64 (Lk.tl f' x)) := h'.cell _ (by omega)
    obtain ⟨y, hy⟩ : ∃ y, Lk.nx f' x = y + 1 := ⟨Lk.nx f' x - 1, by omega⟩
    have cn : wr.cell? ⟨b, x.toNat * 3, none⟩ = some (.int .i64 (y + 1)) := hy ▸ h'.cell _ (by omega)
    have ch : wr.cell? ⟨b, head.toNat * 3 + 2, none⟩ = some (.int .i64 (Lk.tl f' head)) := h'.cell _ (by omega)
    have fh := h'.free (head.toNat * 3 + 2)
    have ot : 0 ≤ Lk.tl f' x := (ok' _).1
    have ot' : Lk.tl f' x ≤ 64 := (ok' _).2
    have on : 0 ≤ y + 1 := hy ▸ (ok' _).1
    have on' : y + 1 ≤ 64 := hy ▸ (ok' _).2
    have HY : Hid (Lk.nx f' x = y + 1) := hy
    clear hy
    by_cases hst : Lk.tl f' x ≠ 0 ∨ m = (64 : Int)
    · have e1 : Hid (Lk.seek f head = (Lk.stop f' head x, Lk.tl f' x - 1)) := hg.out.symm.trans (seekGo_stop f' x m hst)
      have hL : Hid (Lnk (wr.setCell ⟨b, head.toNat * 3 + 2, none⟩ (.int .i64 (Lk.tl f' x))) b (Lk.stop f' head x)) := h'.set (by omega) _
      have hG : Hid (w.grownBy (wr.setCell ⟨b, head.toNat * 3 + 2, none⟩ (.int .i64 (Lk.tl f' x))) (some b)) := only_setCell (p := ⟨b, head.toNat * 3 + 2, none⟩) hgr (.inl rfl) _
      have ch2 : (wr.setCell ⟨b, head.toNat * 3 + 2, none⟩ (.int .i64 (Lk.tl f' x))).cell? ⟨b, head.toNat * 3 + 2, none⟩ = some (.int .i64 (Lk.tl f' x)) := World.cell?_setCell_same _ _ _ ch
      have hlt := h'.lt
      by_cases hm : m = 64
      · subst hm
        clear hst hg hgr h' ok'
        go_wp2
        go_region
        go_wp2
        go_ret
        rw [e1.out]; exact ⟨rfl, hL.out.drew, only_drew hG.out⟩
      · have m1 : m < 64 := by omega
        have b1 : (Lk.tl f' x == 0) = false := by simp; omega
        clear hst hm hg hgr h' ok'
        go_wp2
        go_region
        go_wp2
        go_ret
        rw [e1.out]; exact ⟨rfl, hL.out.drew, only_drew hG.out⟩
    · obtain ⟨ht, hm⟩ : Lk.tl f' x = 0 ∧ m ≠ 64 := by constructor <;> omega
      have b1 : (Lk.tl f' x == 0) = true := by simp [ht]
      have m1 : m < 64 := by omega
      by_cases hx : Lk.thr y = true
      · obtain ⟨n0, n1⟩ := (Lk.thr_iff _).1 hx
        have e1 : Hid (Lk.seekGo head (64 - (m + 1)).toNat (Lk.upd f' (y.toNat * 3 + 1) (x + 1)) y = Lk.seek f head) := (seekGo_go f' x y m m0 m1 ht HY.out hx).symm.trans hg.out
        have cp : wr.cell? ⟨b, y.toNat * 3 + 1, none⟩ = some (.int .i64 (Lk.pv f' y)) := h'.cell _ (by omega)
        have fp := h'.free (y.toNat * 3 + 1)
        have hL : Hid (Lnk (wr.setCell ⟨b, y.toNat * 3 + 1, none⟩ (.int .i64 (x + 1))) b (Lk.upd f' (y.toNat * 3 + 1) (x + 1))) := h'.set (by omega) _
        have hG : Hid (w.grownBy (wr.setCell ⟨b, y.toNat * 3 + 1, none⟩ (.int .i64 (x + 1))) (some b)) := only_setCell (p := ⟨b, y.toNat * 3 + 1, none⟩) hgr (.inl rfl) _
        have hO : Hid (Lk.Ok (Lk.upd f' (y.toNat * 3 + 1) (x + 1))) := ok'.upd _ (by omega) (by omega)
        clear ht hm hst hg hgr h' ok' hx
        go_wp2
        go_roundw
        case rel => exact ⟨_, _, _, rfl, rfl, hL.out, hO.out, hG.out, n0, n1, by omega, by omega, e1⟩
        case measure => simp [intOf]; omega
      · have hx' : Lk.thr y = false := by simpa using hx
        have e1 : Hid (Lk.seek f head = (f', -1)) := hg.out.symm.trans (seekGo_end f' x y m m0 m1 ht HY.out hx')
        have y0 : y < 0 := by rw [Lk.thr_no] at hx'; omega
        have hL : Hid (Lnk wr b f') := h'
        have hG : Hid (w.grownBy wr (some b)) := hgr
        clear ht hm hst hg hx hx' hgr h' ok'
        go_wp2
        go_ret
        rw [e1.out]; exact ⟨rfl, hL.out, hG.out⟩
end Go.Proofs.Ytllicaibgjjidaa
