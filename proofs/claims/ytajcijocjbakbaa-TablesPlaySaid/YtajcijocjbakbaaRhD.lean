import Derived.Test.YtajcijocjbakbaaRhC
import Derived.Test.YtajcijocjbakbaaRgr
import Derived.RangeFuncNested
import Derived.WalkMore
namespace Go.Proofs.Ytajcijocjbakbaa
open Go.RowKit
attribute [local go_sem] Oper.semAt_some

def enArgs (p : Nat × En) : Array Value := #[.int .i64 (p.1 : Nat), p.2.val]
theorem entries_any (A : Option Addr) (n c : Nat) (w : World) : Calls Try.prog 30 #[.slice A n c] w fun e w' => e = .returned (.func (.func 47) #[] #[.pointer (some ⟨w.heap.size, 0, none⟩)]) ∧ w' = w.alloc (.cells #[.slice A n c] 28) := by
  go_enter Try.func30, Try.ntmps30
  go_wp2
  go_ret
  exact ⟨rfl, rfl⟩
set_option maxRecDepth 100000 in
set_option maxHeartbeats 2000000 in
theorem entries_seq (bb B0 : Nat) (A : Option Addr) (n c : Nat) (hs : List Hd) (qs : List (List En)) (T : Nat → Prop) (w : World) (hc : w.cell? ⟨bb, 0, none⟩ = some (.slice A n c)) (hr : RdD w B0 A n hs qs) (hB0 : B0 ≤ w.heap.size) (hT0 : ∀ j, j < B0 → ¬ T j) (hn : (n : Int) ≤ 100000) (hl : ∀ q ∈ qs, q.length ≤ 100000) :
    SeqC Try.prog 47 #[.pointer (some ⟨bb, 0, none⟩)] enArgs (flat qs) (fun _ => False) T w := by
  intro lp J Jx W hW hsz hJ hJx hY h0
  have hbb := World.block_lt_of_cell? w _ hc
  simp only at hbb
  have hcW := hW.cell hc id
  have hrW := hr.under hW (fun _ _ => id) hB0
  refine callsIn_of_wp Try.func47 rfl trivial ?_ rfl
  simp only [Try.ntmps47, List.size_toArray, List.length_cons, List.length_nil, Nat.reduceAdd, Nat.reduceSub, Array.replicate_succ, Array.replicate_zero, List.push_toArray, List.append_toArray, List.nil_append, List.cons_append]
  refine wpIn_wide.2 (wp_scope_straight ((wpIn_wide (n := 0)).1 ?_))
  refine wpIn_seq (wpIn_label ?_)
  simp only [Exit.then]
  gi_wp2_with fail
  gi_loopw [9] (fun i wr => ∃ k : Nat, i = .int .i64 k ∧ k ≤ n ∧ J (pos qs k) wr ∧ W.heap.size ≤ wr.heap.size ∧ RdD wr B0 A n hs qs) (fun i _ => n - (intOf i).toNat)
  case atStart => exact ⟨0, rfl, Nat.zero_le _, h0, Nat.le_refl _, hrW⟩
  case round =>
    obtain ⟨k, rfl, hk, hJk, hsk, hrk⟩ := hrel
    by_cases hlt : k < n
    · obtain ⟨g, off, Ai, ni, ci, q, rfl, hg, hci, hri, hqi, hhi, hni⟩ := hrk.at hlt
      have hkq : k < qs.length := by rw [hrk.lenq]; exact hlt
      have hqe : qs[k] = q := by rw [List.getElem?_eq_getElem hkq] at hqi; injection hqi
      have hql := hl q (by rw [← hqe]; exact List.getElem_mem hkq)
      have hps := pos_succ qs k hkq
      rw [hqe, ← hni] at hps
      have HPS := Lib.hid hps
      have HHI := Lib.hid hhi
      have HQI := Lib.hid hqi
      have HQE := Lib.hid hqe
      have HNI := Lib.hid hni
      have n1 : (ni : Int) ≤ 100000 := by omega
      have i0 : (0 : Int) ≤ (k : Int) := by omega
      have i1 : (k : Int) < (n : Int) := by omega
      clear hri hhi hqi hqe hql hps hni
      gi_wp2_with fail
      gi_loopw [16] (fun i wr => ∃ j : Nat, i = .int .i64 j ∧ j ≤ ni ∧ J (pos qs k + j) wr ∧ W.heap.size ≤ wr.heap.size ∧ RdD wr B0 (some ⟨g, off, none⟩) n hs qs) (fun i _ => ni - (intOf i).toNat)
      case atStart => exact ⟨0, rfl, Nat.zero_le _, hJk, hsk, hrk⟩
      case round =>
        obtain ⟨j, rfl, hj, hJj, hsj, hrj⟩ := hrel
        by_cases hjl : j < ni
        · have hjq : j < q.length := by have := HNI.out; omega
          obtain ⟨x, hx⟩ : ∃ x, q[j] = x := ⟨_, rfl⟩
          have hfl : (flat qs)[pos qs k + j]? = some (k, x) := by
            have := flat_at qs k j hkq (by rw [HQE.out]; exact hjq)
            rw [this]
            congr 1
            simp only [HQE.out, hx]
          obtain ⟨hkk, hxx⟩ := List.getElem?_eq_some_iff.1 hfl
          have hrow := hrj.rowAt HHI.out HQI.out
          obtain ⟨g2, off2, hA2, -, hcell⟩ := (Rd.ens hrow).2 (by show 0 < ni; omega)
          have hA2 : Ai = some ⟨g2, off2, none⟩ := hA2
          subst hA2
          obtain ⟨q0, q1, q2⟩ := hcell j hjq
          rw [hx] at q0 q1 q2
          have HXX := Lib.hid hxx
          have j0 : (0 : Int) ≤ (j : Int) := by omega
          have j1 : (j : Int) < (ni : Int) := by omega
          clear hcell hrow hxx hfl hx hjq
          gi_wp2_with fail
          have hfW : Frm wr (wr.alloc (.cells #[.int .i64 x.t, .int .u32 x.k, .int .u64 x.tok] 43)) (fun _ => False) := (Frm.refl _ _).alloc _
          obtain ⟨fn, tmps, assign, body, hy, hR⟩ := hY _ hkk _ (hJ _ wr _ hJj hfW) (Nat.le_trans hsj hfW.size)
          rw [HXX.out] at hy
          dsimp only [enArgs] at hy
          rw [hy, Oper.uponIn_round]
          refine ⟨fun h => by simp [Fence.wide] at h, ?_⟩
          refine hR.mono ?_
          rintro e W3 (⟨rfl, hJ3, hk3⟩ | ⟨rfl, hJx3⟩)
          · gi_wp2_with fail
            go_roundw
            case rel => exact ⟨j + 1, by go_num, by omega, hJ3, Nat.le_trans hsj (Nat.le_trans hfW.size hk3.size), (hrj.under hfW (fun _ _ => id) (by omega)).under hk3 (fun y hy h => h.elim (hT0 y hy) (fun h => by omega)) (Nat.le_trans (by omega) hfW.size)⟩
            case measure => simp [intOf]; omega
          · gi_wp2_with fail
            rw [Exit.noGoto_normal]
            go_end0
            exact ⟨⟨_, rfl⟩, .inr ⟨_, hkk, hJx3⟩⟩
        · obtain rfl : j = ni := by omega
          gi_wp2_with fail
          go_roundw
          case rel => exact ⟨k + 1, by go_num, by omega, by rw [HPS.out]; exact hJj, hsj, hrj⟩
          case measure => simp [intOf]; omega
    · obtain rfl : k = n := by omega
      have hq := hrk.lenq
      have hpa := pos_all qs
      rw [hq] at hpa
      rw [hpa] at hJk
      gi_wp2_with fail
      rw [Exit.noGoto_normal]
      go_end0
      exact ⟨⟨_, rfl⟩, .inl hJk⟩
end Go.Proofs.Ytajcijocjbakbaa
