import Derived.Test.YtajcijocjbakbaaRhL
import Derived.Test.YtajcijocjbakbaaMpr
namespace Go.Proofs.Ytajcijocjbakbaa
open Go.RowKit

set_option maxRecDepth 100000 in
theorem begin_any (now : Int) (w : World) : Calls Try.prog 14 #[.int .u64 now] w fun e w' => e = .returned (.agg #[.int .u64 now, .int .u64 now]) ∧ Frm w w' fun _ => False := by
  go_enter Try.func14, Try.ntmps14
  go_wp2
  refine bodyPost_ret (v := .agg #[.int .u64 now, .int .u64 now]) (by simp [results, Try.results14, go_sem]) rfl ⟨rfl, ?_⟩
  exact (Frm.refl _ _).alloc _
set_option maxRecDepth 100000 in
theorem rbegin_any (now : Int) (w : World) : Calls Try.prog 50 #[.int .u64 now] w fun e w' => e = .returned (.agg #[.int .u64 now, .int .u64 now]) ∧ Frm w w' fun _ => False := by
  go_enter Try.func50, Try.ntmps50
  go_wp2
  refine bodyPost_ret (v := .agg #[.int .u64 now, .int .u64 now]) (by simp [results, Try.results50, go_sem]) rfl ⟨rfl, ?_⟩
  exact (Frm.refl _ _).alloc _
set_option maxRecDepth 100000 in
theorem clone_some (a : Addr) (n c : Nat) (xs : List En) (w : World) (hr : Rd w w.heap.size 3 (some a) n (ens xs)) (hn : (n : Int) ≤ 100000) :
    Calls Try.prog 53 #[.slice (some a) n c] w fun e w' => ∃ A' c', e = .returned (.slice A' n c') ∧ Sl w' w.heap.size 3 A' n c' (ens xs) ∧ Frm w w' fun _ => False := by
  obtain ⟨i43, hi, hz0, hz1, hz2⟩ := info_parts info43
  have HR := Lib.hid hr
  have he : ∀ w : World, (binOp .eql 22 (.slice (some a) n c) (.slice none 0 0)).run Try.prog w = .ok (.bool false) w := fun _ => rfl
  have RR : Hid (0 + n ≤ maxLen ∧ (0 + n) * 24 ≤ 140737488355328) := by show _ ∧ _; unfold maxLen; omega
  clear hr hn
  go_enter Try.func53, Try.ntmps53
  have hsl : Hid (Sl (w.alloc (.cells #[] 43)) w.heap.size 3 (some ⟨w.heap.size, 0, none⟩) 0 0 []) := Sl.new w (Nat.le_refl _) 43 #[] rfl (Nat.le_refl _) (by unfold maxLen; omega) rfl
  have hrd := Lib.hid ((HR.out.alloc (Nat.le_refl _) (.cells #[] 43)).more (B' := (w.alloc (.cells #[] 43)).heap.size) (by simp))
  go_wp2_with (at_builtin; refine wpList_append_sl _ rfl (.tmp 5) (.tmp 6) 22 rfl w.heap.size 43 i43 _ 3 24 Try.underlying22 hi hz0 hz1 hz2 rfl (by decide) _ _ _ [] rfl hsl.out _ n c (ens xs) rfl hrd.out (ens_one xs) RR.out.1 RR.out.2 (by simp) ?_; intro A' cap' w2 hap)
  go_ret
  refine ⟨A', cap', by simp, by simpa using hap.1, ((Frm.refl w fun _ => False).alloc (.cells #[] 43)).trans hap.2.1 fun j hj hb => ?_⟩
  rw [blk_some] at hb
  omega
set_option maxRecDepth 100000 in
theorem clone_none (w : World) : Calls Try.prog 53 #[.slice none 0 0] w fun e w' => e = .returned (.slice none 0 0) ∧ w = w' := by
  have he : ∀ w : World, (binOp .eql 22 (.slice none 0 0) (.slice none 0 0)).run Try.prog w = .ok (.bool true) w := fun _ => rfl
  go_enter Try.func53, Try.ntmps53
  go_wp2
  go_ret
  exact ⟨rfl, rfl⟩
set_option maxRecDepth 100000 in
/-- A copy of its own. -/
theorem own_any (A : Option Addr) (n c : Nat) (xs : List En) (w : World) (hr : Rd w w.heap.size 3 A n (ens xs)) (hA : A = none → c = 0) (hnc : n ≤ c) (hn : (n : Int) ≤ 100000) :
    Calls Try.prog 46 #[.slice A n c] w fun e w' => ∃ A', e = .returned (.slice A' n n) ∧ Sl w' w.heap.size 3 A' n n (ens xs) ∧ Frm w w' fun _ => False := by
  cases A with
  | none =>
    obtain rfl : c = 0 := hA rfl
    obtain rfl : n = 0 := by omega
    have hx : xs = [] := by
      have := hr.1
      rw [ens_len] at this
      exact List.eq_nil_of_length_eq_zero (by omega)
    subst hx
    clear hr hA hnc hn
    go_enter Try.func46, Try.ntmps46
    go_wp2_with (first
      | (go_at_call 53; refine (clone_none _).mono ?_; rintro e w' ⟨rfl, rfl⟩)
      | (go_at_call 31; refine (clip_any none 0 0 (Nat.le_refl _) _).mono ?_; rintro e w' ⟨rfl, rfl⟩))
    go_ret
    exact ⟨none, rfl, by simpa [ens] using Sl.nil w _ 3, Frm.refl _ _⟩
  | some a =>
    have HC := Lib.hid (clone_some a n c xs w hr hn)
    clear hr hA hnc hn
    go_enter Try.func46, Try.ntmps46
    go_wp2_with (first
      | (go_at_call 53; refine HC.out.mono ?_; rintro e w' ⟨A', c', rfl, hs, hf⟩; have S := Lib.hid hs; have F := Lib.hid hf; have hle := hs.le; clear hs hf)
      | (go_at_call 31; refine (clip_any A' n c' hle _).mono ?_; rintro e w2 ⟨rfl, rfl⟩))
    go_ret
    exact ⟨A', rfl, S.out.clip (Nat.le_refl _) hle, F.out⟩
end Go.Proofs.Ytajcijocjbakbaa
