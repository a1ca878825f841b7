import Derived.Test.YtaenclbbiodhfaaLnN
namespace Go.Proofs.Ytaenclbbiodhfaa
open Go.RowKit

set_option maxRecDepth 100000 in
set_option maxHeartbeats 1000000 in
theorem rmoved_any (A X : Option Addr) (n c m cx : Nat) (key : Int) (xs ms : List En) (w : World) (hr : Rd w w.heap.size 3 A n (ens xs)) (hm : Rd w w.heap.size 3 X m (ens ms)) (hn : (n : Int) ≤ 500) (hml : (m : Int) ≤ 500) :
    Calls Try.prog 34 #[.slice A n c, .slice X m cx, .int .u32 key] w fun e w' => ∃ An cn, e = .returned (.slice An (n + m) cn) ∧ Sl w' w.heap.size 3 An (n + m) cn (ens (xs ++ ms.map (mv key))) ∧ Frm w w' fun _ => False := by
  obtain ⟨i47, hi, hz0, hz1, hz2⟩ := info_parts info47
  obtain ⟨hlm, hcells⟩ := Rd.ens hm
  have hlx := (Rd.ens hr).1
  have HR := Lib.hid hr
  have HCE := Lib.hid hcells
  have HN := Lib.hid hn
  have HML := Lib.hid hml
  have HLX := Lib.hid hlx
  have HLM := Lib.hid hlm
  have bb : n + m ≤ 1000 ∧ 1000 ≤ maxLen := by unfold maxLen; omega
  have BB := Lib.hid bb
  clear hr hm hn hml hlx hlm bb hcells
  go_enter Try.func34, Try.ntmps34
  go_wp2_with (at_builtin; refine wpList_append_sl _ rfl _ _ 37 rfl w.heap.size 47 i47 _ 3 24 Try.underlying37 hi hz0 hz1 hz2 rfl (by decide) none 0 0 [] rfl (Sl.nil _ _ _) A n c (ens xs) rfl HR.out (ens_one _) (by have := BB.out; omega) (by have := BB.out; omega) (Nat.le_refl _) ?_; intro A1 cap1 w1 hap; rw [Nat.zero_add, List.nil_append] at hap; replace hap := Lib.hid hap)
  go_loopw [7, 8] (fun o i wr => ∃ (k : Nat) (Am : Option Addr) (cm : Nat), i = .int .i64 k ∧ k ≤ m ∧ o = .slice Am (n + k) cm ∧ Sl wr w.heap.size 3 Am (n + k) cm (ens (xs ++ (ms.take k).map (mv key))) ∧ Frm w wr fun _ => False) (fun _ i _ => m - (intOf i).toNat)
  case atStart => exact ⟨0, A1, cap1, rfl, Nat.zero_le _, rfl, by simpa using hap.out.1, (Frm.refl w fun _ => False).fresh hap.out.2.1 (fun j hj => (blk_none _ hj).elim)⟩
  case round =>
    obtain ⟨k, Am, cm, rfl, hk, rfl, hS, hF⟩ := hrel
    have S := Lib.hid hS
    have F := Lib.hid hF
    clear hS hF
    by_cases hlt : k < m
    · obtain ⟨g, off, rfl, hg, hcell⟩ := HCE.out (by omega)
      have hkl : k < ms.length := by have := HLM.out; omega
      obtain ⟨x, hx⟩ : ∃ x, x = ms[k] := ⟨_, rfl⟩
      have hc := hcell k hkl
      rw [← hx] at hc
      obtain ⟨q0, q1, q2⟩ := hc
      replace q0 := F.out.cell q0 id
      replace q2 := F.out.cell q2 id
      have i0 : (0 : Int) ≤ (k : Int) := by omega
      have i1 : (k : Int) < (m : Int) := by omega
      have i5 : (k : Int) ≤ 500 := by have := HML.out; omega
      have HX := Lib.hid hx
      have bb : n + k + 1 ≤ maxLen ∧ (n + k + 1) * 24 ≤ 140737488355328 := by have := BB.out; omega
      obtain ⟨r1, r2⟩ := bb
      have R1 := Lib.hid r1
      have R2 := Lib.hid r2
      clear hcell hx r1 r2 q1
      go_wp2_with fail
      go_region_law (refine step_append_sl _ rfl (.tmp 17) (.tmp 30) 37 rfl w.heap.size 47 i47 _ 3 24 Try.underlying37 hi hz0 hz1 hz2 rfl (by decide) _ _ _ _ rfl (S.out.drew.alloc _) _ 1 1 (mv key x).V rfl (Rd.fresh_at _ 47 #[.int .i64 x.t, .int .u32 key, .int .u64 x.tok] rfl rfl) (mv key x).one R1.out R2.out (Nat.le_trans F.out.size (by simp)) ?_; intro A' cap' w3 hap2; replace hap2 := Lib.hid hap2)
      all_goals
        dsimp [Act.put]
        go_wp2_with fail
        go_roundw
        case rel => exact ⟨k + 1, A', cap', by go_num, by omega, rfl, by have := hap2.out.1; rw [List.take_succ_eq_append_getElem hkl, List.map_append, ← List.append_assoc, List.map_cons, List.map_nil, ens_snoc, ← HX.out]; exact this, (F.out.drew.then_ ((Frm.refl _ _).alloc _)).fresh hap2.out.2.1 (fun j hj => (S.out.ge hj).1)⟩
        case measure => simp [intOf]; omega
    · obtain rfl : k = m := by omega
      go_wp2_with fail
      go_ret
      exact ⟨Am, cm, rfl, by have := S.out; rw [List.take_of_length_le (by have := HLM.out; omega)] at this; exact this, F.out⟩
end Go.Proofs.Ytaenclbbiodhfaa
