import Derived.Test.YtllicaibgjjidaaRhC
import Derived.Test.YtllicaibgjjidaaRhJ
namespace Go.Proofs.Ytllicaibgjjidaa
open Go.RowKit

theorem info75 : (Try.prog.info? 75).map (fun i => (i.zero, i.size, i.bytes)) = some (some (.slice none 0 0), 1, 24) := by kernel_rfl
theorem hds_snoc (hs : List Hd) (h : Hd) : hds (hs ++ [h]) = hds hs ++ [h.V] := by simp [hds]
set_option maxRecDepth 100000 in
set_option maxHeartbeats 1000000 in
theorem others9 (A : Option Addr) (n c : Nat) (hs : List Hd) (qs : List (List En)) (w : World) (hr : RdD w w.heap.size A n hs qs) (hn : (n : Int) ≤ 1000) (hl : ∀ q ∈ qs, q.length ≤ 1000) :
    Calls Try.prog 12 #[.slice A n c] w fun e w' => ∃ Ao co hs', e = .returned (.slice Ao n co) ∧ OwD w' w.heap.size w.heap.size Ao n co hs' qs ∧ Frm w w' fun _ => False := by
  obtain ⟨i75, hi, hz0, hz1, hz2⟩ := info_parts info75
  have HR := Lib.hid hr
  have HQL := Lib.hid hr.lenq
  have HL := Lib.hid hl
  clear hr hl
  go_enter Try.func12, Try.ntmps12
  go_wp2_with fail
  go_loopw [3, 4] (fun o i wr => ∃ (k : Nat) (Ao : Option Addr) (co : Nat) (hs' : List Hd), i = .int .i64 k ∧ k ≤ n ∧ o = .slice Ao k co ∧ OwD wr w.heap.size w.heap.size Ao k co hs' (qs.take k) ∧ Frm w wr fun _ => False) (fun _ i _ => n - (intOf i).toNat)
  case atStart => exact ⟨0, none, 0, [], rfl, Nat.zero_le _, rfl, OwD.nil _ _ _, Frm.refl _ _⟩
  case round =>
    obtain ⟨k, Ao, co, hs', rfl, hk, rfl, hS, hF⟩ := hrel
    have S := Lib.hid hS
    have F := Lib.hid hF
    clear hS hF
    by_cases hlt : k < n
    · obtain ⟨g, off, Ak, mk, ck, q, rfl, hg, hh, hrk, hq, -, hmk⟩ := (HR.out.new_ F.out).at hlt
      have hkq : k < qs.length := by rw [HQL.out]; exact hlt
      have hqe : qs[k] = q := by rw [List.getElem?_eq_getElem hkq] at hq; injection hq
      have hql := HL.out q (by rw [← hqe]; exact List.getElem_mem hkq)
      have hO := fun V (h : Rd V V.heap.size 3 Ak mk (ens q)) => others_any Ak mk ck q V h (by omega)
      have HO := Lib.hid (hO wr hrk)
      have HQE := Lib.hid hqe
      have i0 : (0 : Int) ≤ (k : Int) := by omega
      have i1 : (k : Int) < (n : Int) := by omega
      obtain ⟨r1, r2⟩ : k + 1 ≤ maxLen ∧ (k + 1) * 24 ≤ 140737488355328 := by unfold maxLen; omega
      clear hrk hq hqe hO hmk hql hg
      go_wp2_with (first
        | (go_at_call 31; refine HO.out.mono ?_; rintro e w2 ⟨Am, cm, rfl, hs2, hf2⟩; have M2 := Lib.hid hs2; have F2 := Lib.hid hf2; have S2 := Lib.hid (S.out.new_ hf2); clear hs2 hf2)
        | (at_builtin; refine wpList_append_sl _ rfl _ _ 25 rfl w.heap.size 75 i75 _ 1 24 Try.underlying25 hi hz0 hz1 hz2 rfl (by decide) _ _ _ _ rfl (S2.out.out.alloc _) _ 1 1 [.slice Am mk cm] rfl (Rd.fresh_at _ 75 #[.slice Am mk cm] rfl rfl) (by simp [Value.oneCell']) r1 r2 (Nat.le_trans (Nat.le_trans F.out.size F2.out.size) (by simp)) ?_; intro A' cap' w3 hap; replace hap := Lib.hid hap))
      go_roundw
      case rel =>
        have hlo : ∀ j, blk Am j → wr.heap.size ≤ j := fun j hj => (M2.out.ge hj).1
        refine ⟨k + 1, A', cap', hs' ++ [⟨Am, mk, cm⟩], by go_num, by omega, rfl, ?_, ?_⟩
        · rw [List.take_succ_eq_append_getElem hkq, HQE.out]
          refine (S2.out.new_ ((Frm.refl w2 _).alloc _)).push ((M2.out.alloc _).mono F.out.size) (fun j hj h => ?_) (fun i hi j hj h => ?_) hap.out
          · have := hlo j hj; have := (S.out.out.ge h).2; omega
          · have := hlo j hj; have := ((S.out.row i hi (by rw [S.out.lenq, ← S.out.len]; exact hi)).ge h).2; omega
        · exact ((F.out.then_ F2.out).then_ ((Frm.refl w2 _).alloc _)).fresh hap.out.2.1 (fun j hj => (S.out.out.ge hj).1)
      case measure => simp [intOf]; omega
    · obtain rfl : k = n := by omega
      go_wp2_with fail
      go_ret
      exact ⟨Ao, co, hs', rfl, by have := S.out; rw [List.take_of_length_le (by have := HQL.out; omega)] at this; exact this, F.out⟩
set_option maxRecDepth 100000 in
set_option maxHeartbeats 1000000 in
theorem same9 (A A' : Option Addr) (n c c' : Nat) (hs hs' : List Hd) (qs : List (List En)) (w : World) (hr : RdD w w.heap.size A n hs qs) (hr' : RdD w w.heap.size A' n hs' qs) (hn : (n : Int) ≤ 1000) (hl : ∀ q ∈ qs, q.length ≤ 1000) :
    Calls Try.prog 14 #[.slice A n c, .slice A' n c'] w fun e w' => e = .returned (.bool true) ∧ Frm w w' fun _ => False := by
  have HR := Lib.hid hr
  have HR' := Lib.hid hr'
  have HQL := Lib.hid hr.lenq
  have HL := Lib.hid hl
  clear hr hl hr'
  go_enter Try.func14, Try.ntmps14
  go_wp2_with fail
  go_loopw [5] (fun i wr => ∃ k : Nat, i = .int .i64 k ∧ k ≤ n ∧ Frm w wr fun _ => False) (fun i _ => n - (intOf i).toNat)
  case atStart => exact ⟨0, rfl, Nat.zero_le _, Frm.refl _ _⟩
  case round =>
    obtain ⟨k, rfl, hk, hF⟩ := hrel
    have F := Lib.hid hF
    clear hF
    by_cases hlt : k < n
    · obtain ⟨g, off, Ak, mk, ck, q, rfl, -, hh, hrk, hq, -, hmk⟩ := (HR.out.new_ F.out).at hlt
      obtain ⟨g', off', Ak', mk', ck', q', rfl, -, hh', hrk', hq', -, hmk'⟩ := (HR'.out.new_ F.out).at hlt
      have hqq : q' = q := by rw [hq] at hq'; injection hq' with h; exact h.symm
      subst hqq
      have hmm : mk' = mk := by omega
      subst hmm
      have hql := HL.out q' (List.mem_of_getElem? hq)
      have HS := Lib.hid (fun (V : Grown wr) => same_ents Ak Ak' mk' ck ck' q' V.1 ((hrk.below (V.2.below (fun _ _ => id) (Nat.le_refl _))).more V.2.size) ((hrk'.below (V.2.below (fun _ _ => id) (Nat.le_refl _))).more V.2.size) (by omega))
      replace hh := Grown.cell hh
      replace hh' := Grown.cell hh'
      have i0 : (0 : Int) ≤ (k : Int) := by omega
      have i1 : (k : Int) < (n : Int) := by omega
      clear hrk hrk' hq hq' hmk hmk' hql
      go_wp2_with fail
      refine wp_region_grown wr (Frm.refl _ _) (by kernel_rfl) (by kernel_rfl) ?_
      repeat (go_big_quiet_step ((go_at_call 35; refine Calls.grown_of (HS.out _))))
      refine wpQuiet_nil ?_
      intro wq hq
      have F2 := Lib.hid (F.out.then_ hq)
      clear hq hh hh'
      go_wp2_with fail
      go_roundw
      case rel => exact ⟨k + 1, by go_num, by omega, F2.out⟩
      case measure => simp [intOf]; omega
    · obtain rfl : k = n := by omega
      go_wp2_with fail
      go_ret
      exact ⟨rfl, F.out⟩
end Go.Proofs.Ytllicaibgjjidaa
