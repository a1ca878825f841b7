import Derived.Test.YtaenclbbiodhfaaLnL
import Derived.Lib.AppendZeros
namespace Go.Proofs.Ytaenclbbiodhfaa
open Go.RowKit

theorem zeros_size (z : Array Value) (n : Nat) : (Builtin.zeroCells z n).size = n * z.size := by
  simp [Builtin.zeroCells]
theorem le_grown (w : World) (n : Nat) (e : TypeId) : n ≤ grownCap w n 0 e := by
  unfold grownCap Question.cut
  simp only
  omega
set_option maxRecDepth 100000 in
set_option maxHeartbeats 1000000 in
theorem grow_any (n : Nat) (w : World) (hn : (n : Int) ≤ 1000) :
    Calls Try.prog 77 #[.slice none 0 0, .int .i64 n] w fun e w' => ∃ Ag cg, e = .returned (.slice Ag 0 cg) ∧ Sl w' w.heap.size 3 Ag 0 cg [] ∧ Frm w w' fun _ => False := by
  obtain ⟨i35, hi, hz0, hz1, hz2⟩ := info_parts info35
  by_cases hp : n = 0
  · subst hp
    clear hn
    go_enter Try.func77, Try.ntmps77
    go_wp2_with fail
    go_ret
    exact ⟨none, 0, rfl, Sl.nil _ _ _, Frm.refl _ _⟩
  · have i0 : (0 : Int) < (n : Int) := by omega
    have h63 : (n : Int) ≤ 9223372036854775807 := by omega
    have hrun := Lib.run_append_nil_zeros w 22 3 22 35 i35 _ .i64 .i64 Try.underlying22 Try.underlying3 hi hz0 n (by omega) (by rw [hz1]; decide) h63 (by rw [hz2]; omega)
    obtain ⟨cg, hcg⟩ : ∃ cg, grownCap w n 0 35 = cg := ⟨_, rfl⟩
    have hle : n ≤ cg := by rw [← hcg]; exact le_grown w n 35
    have hmx : cg ≤ maxLen := by rw [← hcg]; exact grownCap_le_maxLen w n 0 35 (by unfold maxLen; omega)
    have hmx2 : (cg : Int) ≤ 9223372036854775807 := by unfold maxLen at hmx; omega
    rw [hcg] at hrun
    have HRUN := Lib.hid hrun
    have HLE := Lib.hid hle
    have HMX := Lib.hid hmx
    have c0 : (0 : Int) ≤ (cg : Int) := by omega
    clear hrun hle hmx hcg hp hn
    go_enter Try.func77, Try.ntmps77
    go_wp2_with (at_builtin; refine Lib.wpList_append_run _ rfl _ _ 22 3 rfl _ _ rfl rfl _ _ HRUN.out ?_)
    go_ret
    refine ⟨some ⟨w.heap.size, 0, none⟩, cg, rfl, ⟨rfl, Nat.zero_le _, HMX.out, .inr ⟨w.heap.size, 0, rfl, Nat.le_refl _, by simp, fun j u hu => by simp at hu, fun j hj => ?_, fun j => ?_⟩⟩, (Frm.refl _ _).drew.alloc _⟩
    · have e : (Builtin.zeroCells #[Value.int .i64 0, Value.int .u32 0, Value.int .u64 0] n ++ Builtin.zeroCells #[Value.int .i64 0, Value.int .u32 0, Value.int .u64 0] (cg - n)).size = cg * 3 := by
        rw [Array.size_append, zeros_size, zeros_size]
        have := HLE.out
        simp only [List.size_toArray, List.length_cons, List.length_nil]
        omega
      rw [World.cell?_drew, World.cell?_alloc_new]
      have : 0 + j < (Builtin.zeroCells #[Value.int .i64 0, Value.int .u32 0, Value.int .u64 0] n ++ Builtin.zeroCells #[Value.int .i64 0, Value.int .u32 0, Value.int .u64 0] (cg - n)).size := by rw [e]; omega
      rw [Array.getElem?_eq_getElem this]; rfl
    · rw [World.frozen?_drew]
      exact World.frozen?_alloc_new _ _ _ _

set_option maxRecDepth 100000 in
set_option maxHeartbeats 1000000 in
theorem concat_any (A X : Option Addr) (n c m cx : Nat) (g : Nat) (xs ms : List En) (w : World) (hr : Rd w w.heap.size 3 A n (ens xs)) (hm : Rd w w.heap.size 3 X m (ens ms)) (hn : (n : Int) ≤ 500) (hml : (m : Int) ≤ 500)
   (c0 : w.cell? ⟨g, 0, none⟩ = some (.slice A n c)) (c1 : w.cell? ⟨g, 1, none⟩ = some (.slice X m cx)) :
    Calls Try.prog 65 #[.slice (some ⟨g, 0, none⟩) 2 2] w fun e w' => ∃ An cn, e = .returned (.slice An (n + m) cn) ∧ Sl w' w.heap.size 3 An (n + m) cn (ens (xs ++ ms)) ∧ Frm w w' fun _ => False := by
  obtain ⟨i35, hi, hz0, hz1, hz2⟩ := info_parts info35
  have HR := Lib.hid hr
  have HM := Lib.hid hm
  clear hr hm
  go_enter Try.func65, Try.ntmps65
  have n0 : (0 : Int) ≤ (n : Int) := by omega
  have m0 : (0 : Int) ≤ (m : Int) := by omega
  have s0 : (0 : Int) ≤ (n : Int) + (m : Int) := by omega
  have s1 : (n : Int) + (m : Int) ≤ 9223372036854775807 := by omega
  have n1 : (n : Int) ≤ 9223372036854775807 := by omega
  have C0 := Lib.hid c0
  have C1 := Lib.hid c1
  have HN := Lib.hid hn
  have HML := Lib.hid hml
  go_wp2_with fail
  go_loopw [3, 5, 11] (fun z _ i wr => w = wr ∧ ((i = .int .i64 0 ∧ z = .int .i64 0) ∨ (i = .int .i64 1 ∧ z = .int .i64 n) ∨ (i = .int .i64 2 ∧ z = .int .i64 ((n : Int) + m)))) (fun _ _ i _ => 2 - (intOf i).toNat)
  case atStart => exact ⟨rfl, .inl ⟨rfl, rfl⟩⟩
  case round =>
    obtain ⟨rfl, ⟨rfl, rfl⟩ | ⟨rfl, rfl⟩ | ⟨rfl, rfl⟩⟩ := hrel
    · clear hn hml
      go_wp2_with fail
      go_roundw
      case rel => exact ⟨trivial, .inr (.inl ⟨rfl, by simp⟩)⟩
      case measure => decide
    · clear hn hml
      go_wp2_with fail
      go_roundw
      case rel => exact ⟨trivial, .inr (.inr ⟨rfl, rfl⟩)⟩
      case measure => decide
    · clear hn hml c0 c1
      go_wp2_with fail
      have hg := grow_any (n + m) w (by have := HN.out; have := HML.out; omega)
      rw [show ((n + m : Nat) : Int) = (n : Int) + (m : Int) from by omega] at hg
      refine hg.mono ?_
      rintro e w2 ⟨Ag, cg, rfl, hs, hf⟩
      have S := Lib.hid hs
      have F := Lib.hid hf
      have c0 := F.out.cell C0.out id
      have c1 := F.out.cell C1.out id
      clear hg hs hf
      go_wp2_with fail
      have bb : n + m ≤ 1000 ∧ 1000 ≤ maxLen := by have := HN.out; have := HML.out; unfold maxLen; omega
      obtain ⟨r1, r2⟩ := bb
      have R1 := Lib.hid r1
      have R2 := Lib.hid r2
      clear r1 r2
      go_loopw [6, 8, 27] (fun o _ i w3 => ∃ Am cm, ((i = .int .i64 0 ∧ o = .slice Am 0 cm ∧ Sl w3 w.heap.size 3 Am 0 cm []) ∨ (i = .int .i64 1 ∧ o = .slice Am n cm ∧ Sl w3 w.heap.size 3 Am n cm (ens xs)) ∨ (i = .int .i64 2 ∧ o = .slice Am (n + m) cm ∧ Sl w3 w.heap.size 3 Am (n + m) cm (ens xs ++ ens ms))) ∧ Frm w w3 fun _ => False) (fun _ _ i _ => 2 - (intOf i).toNat)
      case atStart => exact ⟨Ag, cg, .inl ⟨rfl, rfl, S.out⟩, F.out⟩
      case round =>
        obtain ⟨Am, cm, ⟨rfl, rfl, hS⟩ | ⟨rfl, rfl, hS⟩ | ⟨rfl, rfl, hS⟩, hF⟩ := hrel
        · have S3 := Lib.hid hS
          have F3 := Lib.hid hF
          have c0 := F3.out.cell C0.out id
          have c1 := F3.out.cell C1.out id
          clear hS hF
          go_wp2_with (at_builtin; refine wpList_append_sl _ rfl _ _ 22 rfl w.heap.size 35 i35 _ 3 24 Try.underlying22 hi hz0 hz1 hz2 rfl (by decide) _ _ _ _ rfl S3.out A n c (ens xs) rfl (HR.out.new_ F3.out) (ens_one _) (by have := R1.out; have := R2.out; omega) (by have := R1.out; omega) F3.out.size ?_; intro A' cap' w5 hap; replace hap := Lib.hid hap)
          go_roundw
          case rel => exact ⟨A', cap', .inr (.inl ⟨rfl, rfl, by have := hap.out.1; rw [Nat.zero_add] at this; exact this⟩), F3.out.fresh hap.out.2.1 (fun j hj => (S3.out.ge hj).1)⟩
          case measure => decide
        · have S3 := Lib.hid hS
          have F3 := Lib.hid hF
          have c0 := F3.out.cell C0.out id
          have c1 := F3.out.cell C1.out id
          clear hS hF
          go_wp2_with (at_builtin; refine wpList_append_sl _ rfl _ _ 22 rfl w.heap.size 35 i35 _ 3 24 Try.underlying22 hi hz0 hz1 hz2 rfl (by decide) _ _ _ _ rfl S3.out X m cx (ens ms) rfl (HM.out.new_ F3.out) (ens_one _) (by have := R1.out; have := R2.out; omega) (by have := R1.out; omega) F3.out.size ?_; intro A' cap' w5 hap; replace hap := Lib.hid hap)
          go_roundw
          case rel => exact ⟨A', cap', .inr (.inr ⟨rfl, rfl, hap.out.1⟩), F3.out.fresh hap.out.2.1 (fun j hj => (S3.out.ge hj).1)⟩
          case measure => decide
        · have S3 := Lib.hid hS
          have F3 := Lib.hid hF
          clear hS hF
          go_wp2_with fail
          go_ret
          exact ⟨Am, cm, rfl, by rw [show ens (xs ++ ms) = ens xs ++ ens ms from by simp [ens]]; exact S3.out, F3.out⟩
end Go.Proofs.Ytaenclbbiodhfaa
