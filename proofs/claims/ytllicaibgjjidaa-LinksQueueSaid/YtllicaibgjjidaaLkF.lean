import Derived.Test.YtllicaibgjjidaaLkE
namespace Go.Proofs.Ytllicaibgjjidaa
open Go.RowKit

theorem same_any (b c : Nat) (f : Nat → Int) (w : World) (hb : Lnk w b f) (hc : Lnk w c f) (ok : Lk.Ok f) : Calls Try.prog 26 #[.pointer (some ⟨b, 0, none⟩), .pointer (some ⟨c, 0, none⟩)] w fun e w' => e = .returned (.bool true) ∧ w.grownBy w' none := by
  go_enter Try.func26, Try.ntmps26
  go_wp2
  go_loopw [5] (fun t wr => ∃ x : Int, t = .int .i64 x ∧ -2 ≤ x ∧ x ≤ 66 ∧ w.grownBy wr none) (fun t _ => (66 - intOf t).toNat)
  case atStart => exact ⟨-2, rfl, by decide, by decide, World.grownBy.refl _ _⟩
  case round =>
    obtain ⟨x, rfl, x0, x1, hg⟩ := hrel
    have hb' := hb.grown hg (by simp)
    have hc' := hc.grown hg (by simp)
    by_cases hx : x < 66
    · by_cases ht : Lk.thr x = true
      · obtain ⟨t0, t1⟩ := (Lk.thr_iff x).1 ht
        have o0 : 0 ≤ Lk.nx f x ∧ Lk.nx f x ≤ 64 := ok _
        have o1 : 0 ≤ Lk.pv f x ∧ Lk.pv f x ≤ 64 := ok _
        have o2 : 0 ≤ Lk.tl f x ∧ Lk.tl f x ≤ 64 := ok _
        obtain ⟨o0, p0⟩ := o0
        obtain ⟨o1, p1⟩ := o1
        obtain ⟨o2, p2⟩ := o2
        have hg' := Lib.hid hg
        clear hb hc ht hg
        go_wp2_with (first | (go_at_call 42; refine (rAt_yes c f x t0 t1 _ hc' ok).mono ?_; rintro e w2 ⟨rfl, n, rfl⟩) | (go_at_call 28; refine (At_yes b f x t0 t1 _ (hb'.drewN _) ok).mono ?_; rintro e w2 ⟨rfl, hg2⟩; unfold linkV))
        go_roundw
        case rel => exact ⟨x + 1, by go_num, by omega, by omega, only_trans (only_drewN hg'.out _) hg2 (fun j e => by cases e)⟩
        case measure => simp [intOf]; omega
      · have ht' : Lk.thr x = false := by simpa using ht
        have hg' := Lib.hid hg
        clear hb hc ht hg hb' hc'
        go_wp2_with (first | (go_at_call 42; refine (rAt_no _ x ht' _).mono ?_; rintro e w2 ⟨rfl, rfl⟩) | (go_at_call 28; refine (At_no _ x (.inl ht') _).mono ?_; rintro e w2 ⟨rfl, hg2⟩; unfold linkV))
        go_roundw
        case rel => exact ⟨x + 1, by go_num, by omega, by omega, only_trans hg'.out hg2 (fun j e => by cases e)⟩
        case measure => simp [intOf]; omega
    · go_wp2
      go_ret
      exact ⟨rfl, hg⟩
end Go.Proofs.Ytllicaibgjjidaa
