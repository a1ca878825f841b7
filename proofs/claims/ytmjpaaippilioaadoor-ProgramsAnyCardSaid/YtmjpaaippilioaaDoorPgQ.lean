import Derived.Test.YtmjpaaippilioaaDoorPgP
import Derived.Test.YtmjpaaippilioaaDoorRgr
import Derived.RangeFuncNested
import Derived.WalkMore
import Derived.BigRegionIn
namespace Go.Proofs.YtmjpaaippilioaaDoor
open Go.RowKit
attribute [local go_sem] Oper.semAt_some

/-! ### pieces of four bytes -/
def ckArgs (g off n : Nat) (k : Nat) : Array Value := #[.slice (some ⟨g, off + k * 4, none⟩) (min 4 (n - k * 4)) (min 4 (n - k * 4))]
theorem chunk_any (A : Option Addr) (n c : Nat) (w : World) : Calls Tryd.prog 68 #[.slice A n c, .int .i64 4] w fun e w' => e = .returned (.func (.func 85) #[] #[.pointer (some ⟨w.heap.size, 0, none⟩), .pointer (some ⟨w.heap.size + 1, 0, none⟩)]) ∧ w' = (w.alloc (.cells #[.slice A n c] 38)).alloc (.cells #[.int .i64 4] 3) := by
  go_enter Tryd.func68, Tryd.ntmps68
  go_wp2
  go_ret
  exact ⟨by simp, rfl⟩
set_option maxRecDepth 100000 in
set_option maxHeartbeats 2000000 in
theorem chunk_seq (b1 b2 g off n c : Nat) (T : Nat → Prop) (w : World) (h1 : w.cell? ⟨b1, 0, none⟩ = some (.slice (some ⟨g, off, none⟩) n c)) (h2 : w.cell? ⟨b2, 0, none⟩ = some (.int .i64 4)) (hT1 : ¬ T b1) (hT2 : ¬ T b2) (hnc : n ≤ c) (hn : (n : Int) ≤ 100000) (_hc : c ≤ maxLen) :
    SeqC Tryd.prog 85 #[.pointer (some ⟨b1, 0, none⟩), .pointer (some ⟨b2, 0, none⟩)] (ckArgs g off n) (List.range ((n + 3) / 4)) (fun _ => False) T w := by
  intro lp J Jx W hW hsz hJ hJx hY h0
  have hb1 := World.block_lt_of_cell? w _ h1
  have hb2 := World.block_lt_of_cell? w _ h2
  simp only at hb1 hb2
  have hc1 := hW.cell h1 id
  have hc2 := hW.cell h2 id
  refine callsIn_of_wp Tryd.func85 rfl trivial ?_ rfl
  simp only [Tryd.ntmps85, List.size_toArray, List.length_cons, List.length_nil, Nat.reduceAdd, Nat.reduceSub, Array.replicate_succ, Array.replicate_zero, List.push_toArray, List.append_toArray, List.nil_append, List.cons_append]
  gi_wp2_with fail
  gi_loopw [4] (fun i wr => ∃ k : Nat, i = .int .i64 ((k * 4 : Nat) : Int) ∧ k ≤ (n + 3) / 4 ∧ J k wr ∧ W.heap.size ≤ wr.heap.size ∧ wr.cell? ⟨b1, 0, none⟩ = some (.slice (some ⟨g, off, none⟩) n c) ∧ wr.cell? ⟨b2, 0, none⟩ = some (.int .i64 4)) (fun i _ => n + 4 - (intOf i).toNat)
  case atStart => exact ⟨0, rfl, Nat.zero_le _, h0, Nat.le_refl _, hc1, hc2⟩
  case round =>
    clear hc1 hc2
    obtain ⟨k, rfl, hk, hJk, hsk, hc1, hc2⟩ := hrel
    by_cases hlt : k * 4 < n
    · have i0 : (0 : Int) ≤ ((k * 4 : Nat) : Int) := by omega
      have i1 : ((k * 4 : Nat) : Int) < (n : Int) := by omega
      have i2 : ((k * 4 : Nat) : Int) ≤ (n : Int) := by omega
      have i3 : (n : Int) ≤ (c : Int) := by omega
      have i4 : ((k * 4 : Nat) : Int) ≤ (c : Int) := by omega
      have hkk : k < (List.range ((n + 3) / 4)).length := by rw [List.length_range]; omega
      have hyk := fun W1 hJ1 hs1 => hY k hkk W1 hJ1 hs1
      rw [List.getElem_range] at hyk
      unfold ckArgs at hyk
      obtain ⟨p, hp⟩ : ∃ p, k * 4 = p := ⟨_, rfl⟩
      have HP := Lib.hid hp
      rw [hp] at i0 i1 i2 i4 hyk ⊢
      have hm : (if ((n - p : Nat) : Int) < 4 then ((n - p : Nat) : Int) else 4) = ((min 4 (n - p) : Nat) : Int) := by split <;> omega
      obtain ⟨m, hmm⟩ : ∃ m, min 4 (n - p) = m := ⟨_, rfl⟩
      rw [hmm] at hm hyk
      have m0 : (0 : Int) ≤ (m : Int) := by omega
      have m1 : (p : Int) + (m : Int) ≤ (n : Int) := by omega
      have m2 : (p : Int) + (m : Int) ≤ (c : Int) := by omega
      have m3 : (p : Int) ≤ (p : Int) + (m : Int) := by omega
      have HY := Lib.hid hyk
      clear hp hyk hmm
      gi_wp2_with fail
      gi_region
      gi_wp2_with fail
      have hfW : Frm wr wr.drew (fun _ => False) := (Frm.refl _ _).drew
      obtain ⟨fn, tmps, assign, body, hy, hR⟩ := HY.out _ (hJ _ wr _ hJk hfW) (Nat.le_trans hsk hfW.size)
      rw [hy, Oper.uponIn_round]
      refine ⟨fun h => by simp [Fence.wide] at h, ?_⟩
      refine hR.mono ?_
      rintro e W3 (⟨rfl, hJ3, hk3⟩ | ⟨rfl, hJx3⟩)
      · have hc1' := hk3.cell (hfW.cell hc1 id) (show ¬ (T b1 ∨ w.heap.size ≤ b1) from fun h => h.elim hT1 (fun h => by omega))
        have hc2' := hk3.cell (hfW.cell hc2 id) (show ¬ (T b2 ∨ w.heap.size ≤ b2) from fun h => h.elim hT2 (fun h => by omega))
        have hs3 := Nat.le_trans hsk (Nat.le_trans hfW.size hk3.size)
        clear hR hy HY hm hk3
        gi_wp2_with fail
        go_roundw
        case rel => exact ⟨k + 1, by have := HP.out; go_num, by have := HP.out; omega, hJ3, hs3, hc1', hc2'⟩
        case measure => simp [intOf]; omega
      · gi_wp2_with fail
        refine bodyPost_ret (v := .tuple #[]) (by simp [results, go_sem, Tryd.results85]) rfl ?_
        exact ⟨⟨_, rfl⟩, .inr ⟨_, hkk, hJx3⟩⟩
    · gi_wp2_with fail
      go_end0
      have : k = (n + 3) / 4 := by omega
      exact ⟨⟨_, rfl⟩, .inl (by rw [List.length_range, ← this]; exact hJk)⟩
end Go.Proofs.YtmjpaaippilioaaDoor
