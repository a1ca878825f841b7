import Derived.Test.YtajcijocjbakbaaTdC
namespace Go.Proofs.Ytajcijocjbakbaa
open Go.RowKit

theorem info96 : (Try.prog.info? 96).map (fun i => (i.zero, i.size, i.bytes)) = some (some (.agg #[.int .u64 0, .int .u64 0]), 2, 16) := by kernel_rfl
set_option maxRecDepth 100000 in
/-- The timers of a table that begins. -/
theorem rbegins_any (nb : Nat) (now : Int) (w : World) (h2 : 2 ≤ nb) (h8 : nb ≤ 8) :
    Calls Try.prog 34 #[.int .i64 nb, .int .u64 now] w fun e w' => ∃ A c, e = .returned (.slice A (2 ^ nb) c) ∧ Sl w' w.heap.size 2 A (2 ^ nb) c (tmc (List.replicate (2 ^ nb) (now, now, []))) ∧ Frm w w' fun _ => False := by
  obtain ⟨i96, hi, hz0, hz1, hz2⟩ := info_parts info96
  obtain ⟨z, hz⟩ : ∃ z, 2 ^ nb = z := ⟨_, rfl⟩
  have hz4 : 4 ≤ z := by rw [← hz]; exact Nat.pow_le_pow_right (n := 2) (by decide) h2
  have hz256 : z ≤ 256 := by rw [← hz]; exact Nat.pow_le_pow_right (n := 2) (by decide) h8
  have HSZ := Lib.hid (fun V => show Calls Try.prog 48 #[.int .i64 nb] V fun e w' => e = .returned (.int .i64 (z : Nat)) ∧ V = w' by rw [← hz, ← sz_pow nb h2 h8]; exact rsize_any _ _)
  rw [hz]
  clear hz
  go_enter Try.func34, Try.ntmps34
  go_wp2_with fail
  go_loopw [5, 6] (fun o i wr => ∃ (k : Nat) (A : Option Addr) (c : Nat), i = .int .i64 k ∧ k ≤ z ∧ o = .slice A k c ∧ Sl wr w.heap.size 2 A k c (tmc (List.replicate k (now, now, []))) ∧ Frm w wr fun _ => False) (fun _ i _ => z - (intOf i).toNat)
  case atStart => exact ⟨0, none, 0, rfl, Nat.zero_le _, rfl, Sl.nil _ _ _, Frm.refl _ _⟩
  case round =>
    obtain ⟨k, A, c, rfl, hk, rfl, hS, hF⟩ := hrel
    have S := Lib.hid hS
    have F := Lib.hid hF
    clear hS hF
    by_cases hlt : k < z
    · have k0 : (0 : Int) ≤ (k : Int) := by omega
      have k1 : (k : Int) < (z : Int) := by omega
      obtain ⟨r1, r2⟩ : k + 1 ≤ maxLen ∧ (k + 1) * 16 ≤ 140737488355328 := by unfold maxLen; omega
      go_wp2_with (first
        | (go_at_call 48; refine (HSZ.out _).mono ?_; rintro e w' ⟨rfl, rfl⟩)
        | (go_at_call 50; refine (rbegin_any now _).mono ?_; rintro e w2 ⟨rfl, hf⟩; have F2 := Lib.hid hf; clear hf)
        | (at_builtin; refine wpList_append_sl _ rfl _ _ 83 rfl w.heap.size 96 i96 _ 2 16 Try.underlying83 hi hz0 hz1 hz2 rfl (by decide) _ _ _ _ rfl ((S.out.new_ F2.out).alloc _) _ 1 1 [.int .u64 now, .int .u64 now] rfl (Rd.fresh_at _ 96 #[.int .u64 now, .int .u64 now] rfl rfl) (by simp [Value.oneCell']) r1 r2 ((F.out.then_ F2.out).alloc _).size ?_; intro A' cap' w3 hap; replace hap := Lib.hid hap))
      go_roundw
      case rel =>
        refine ⟨k + 1, A', cap', by go_num, by omega, rfl, ?_, ((F.out.then_ F2.out).alloc _).fresh hap.out.2.1 (fun j hj => (S.out.ge hj).1)⟩
        have e : tmc (List.replicate (k + 1) (now, now, [])) = tmc (List.replicate k (now, now, [])) ++ [.int .u64 now, .int .u64 now] := by
          rw [List.replicate_succ']
          unfold tmc
          rw [List.flatMap_append]
          rfl
        rw [e]
        exact hap.out.1
      case measure => simp [intOf]; omega
    · obtain rfl : k = z := by omega
      go_wp2_with (go_at_call 48; refine (HSZ.out _).mono ?_; rintro e w' ⟨rfl, rfl⟩)
      go_ret
      exact ⟨A, c, rfl, S.out, F.out⟩
end Go.Proofs.Ytajcijocjbakbaa
