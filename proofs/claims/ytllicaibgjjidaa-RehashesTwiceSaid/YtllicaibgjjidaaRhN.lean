import Derived.Test.YtllicaibgjjidaaRhM
namespace Go.Proofs.Ytllicaibgjjidaa
open Go.RowKit

set_option maxRecDepth 100000 in
set_option maxHeartbeats 2000000 in
theorem few_small (A : Option Addr) (n c : Nat) (hs : List Hd) (qs : List (List En)) (w : World) (hr : RdD w w.heap.size A n hs qs) (hn : (n : Int) ≤ 300) :
    Calls Try.prog 10 #[.slice A n c] w fun e w' => ∃ fb, e = .returned (.bool fb) ∧ (fb = true → (n : Int) ≤ 300 ∧ (∀ q ∈ qs, q.length ≤ 60) ∧ qs.flatten.length ≤ 600) ∧ w = w' := by
  have HR := Lib.hid hr
  have HQL := Lib.hid hr.lenq
  clear hr
  go_enter Try.func10, Try.ntmps10
  go_wp2_with fail
  go_loopw [3, 4] (fun s i wr => ∃ k p : Nat, i = .int .i64 k ∧ s = .int .i64 p ∧ p = pos qs k ∧ k ≤ n ∧ p ≤ 60 * k ∧ (∀ j (hj : j < qs.length), j < k → qs[j].length ≤ 60) ∧ w = wr) (fun _ i _ => n - (intOf i).toNat)
  case atStart => exact ⟨0, 0, rfl, rfl, rfl, Nat.zero_le _, Nat.le_refl _, (fun j hj h => absurd h (by omega)), rfl⟩
  case round =>
    obtain ⟨k, p, rfl, rfl, hp, hkn, hp60, hall, rfl⟩ := hrel
    have HA := Lib.hid hall
    have HP := Lib.hid hp
    clear hall hp
    have p0 : (0 : Int) ≤ (p : Int) := by omega
    by_cases hlk : k < n
    · have k0 : (0 : Int) ≤ (k : Int) := by omega
      have k1 : (k : Int) < (n : Int) := by omega
      obtain ⟨g, off, Ak, mk, ck, q, rfl, -, hh, -, hq, -, hmk⟩ := HR.out.at hlk
      have hkq : k < qs.length := by rw [HQL.out]; exact hlk
      have hqe : qs[k] = q := by rw [List.getElem?_eq_getElem hkq] at hq; injection hq
      have hps := pos_succ qs k hkq
      rw [hqe] at hps
      have HPS := Lib.hid hps
      have HMK := Lib.hid hmk
      have HQE := Lib.hid hqe
      clear hq hps hqe hmk
      by_cases h60 : mk ≤ 60
      · have m0 : (mk : Int) ≤ 60 := by omega
        have m1 : (p : Int) ≤ 60 * (k : Int) := by omega
        go_wp2_with fail
        go_roundw
        case rel => exact ⟨k + 1, p + mk, by go_num, by go_num, by rw [HPS.out, ← HP.out, HMK.out], by omega, by omega, (fun j hj h => by
          by_cases hjk : j < k
          · exact HA.out j hj hjk
          · obtain rfl : j = k := by omega
            rw [HQE.out, ← HMK.out]; exact h60), trivial⟩
        case measure => simp [intOf]; omega
      · have m0 : (60 : Int) < (mk : Int) := by omega
        go_wp2_with fail
        go_ret
        exact ⟨false, rfl, (fun h => by cases h), rfl⟩
    · obtain rfl : k = n := by omega
      have htot : p = qs.flatten.length := by rw [HP.out, ← HQL.out]; unfold pos; rw [List.take_length]
      have hq60 : ∀ q ∈ qs, q.length ≤ 60 := fun q hq => by
        obtain ⟨j, hj, rfl⟩ := List.mem_iff_getElem.1 hq
        exact HA.out j hj (by have := HQL.out; omega)
      have HT := Lib.hid htot
      have HQ := Lib.hid hq60
      clear htot hq60
      have e1 : decide ((k : Int) ≤ 300) = true := by simp; omega
      by_cases h6 : p ≤ 600
      · have e2 : decide ((p : Int) ≤ 600) = true := by simp; omega
        go_wp2_with fail
        go_ret
        exact ⟨true, rfl, (fun _ => ⟨by omega, HQ.out, by rw [← HT.out]; exact h6⟩), rfl⟩
      · have e2 : decide ((p : Int) ≤ 600) = false := by simp; omega
        go_wp2_with fail
        go_ret
        exact ⟨false, rfl, (fun h => by cases h), rfl⟩
theorem wrap_ok {k n : Nat} (hk : k < n) (hm : n ≤ maxLen) : wrap64 ((k : Int) + 1) = (k : Int) + 1 := by
  have h : ((n : Nat) : Int) ≤ ((maxLen : Nat) : Int) := Int.ofNat_le.2 hm
  have h2 : ((maxLen : Nat) : Int) = 9223372036854775807 := rfl
  refine IntWalk.wrap64_in _ ?_
  omega
set_option maxRecDepth 100000 in
set_option maxHeartbeats 2000000 in
theorem few_big (A : Option Addr) (n c : Nat) (hs : List Hd) (qs : List (List En)) (w : World) (hr : RdD w w.heap.size A n hs qs) (hn : (300 : Int) < (n : Int)) (hm : n ≤ maxLen) :
    Calls Try.prog 10 #[.slice A n c] w fun e w' => e = .returned (.bool false) ∧ w = w' := by
  have HR := Lib.hid hr
  have HM := Lib.hid hm
  clear hr hm
  go_enter Try.func10, Try.ntmps10
  go_wp2_with fail
  go_loopw [3, 4] (fun s i wr => ∃ (k : Nat) (p : Int), i = .int .i64 k ∧ s = .int .i64 p ∧ k ≤ n ∧ w = wr) (fun _ i _ => n - (intOf i).toNat)
  case atStart => exact ⟨0, 0, rfl, rfl, Nat.zero_le _, rfl⟩
  case round =>
    obtain ⟨k, p, rfl, rfl, hkn, rfl⟩ := hrel
    by_cases hlk : k < n
    · have k0 : (0 : Int) ≤ (k : Int) := by omega
      have k1 : (k : Int) < (n : Int) := by omega
      obtain ⟨g, off, Ak, mk, ck, q, rfl, -, hh, -, -, -, -⟩ := HR.out.at hlk
      by_cases h60 : mk ≤ 60
      · have m0 : (mk : Int) ≤ 60 := by omega
        have hw : wrap64 ((k : Int) + 1) = (k : Int) + 1 := wrap_ok hlk HM.out
        go_wp2_with fail
        go_roundw
        case rel => exact ⟨k + 1, _, by go_num, rfl, by omega, trivial⟩
        case measure => rw [hw]; simp [intOf]; omega
      · have m0 : (60 : Int) < (mk : Int) := by omega
        go_wp2_with fail
        go_ret
        exact ⟨rfl, rfl⟩
    · obtain rfl : k = n := by omega
      have e1 : decide ((k : Int) ≤ 300) = false := by simp; omega
      go_wp2_with fail
      go_ret
      exact ⟨rfl, rfl⟩
theorem few_any (A : Option Addr) (n c : Nat) (hs : List Hd) (qs : List (List En)) (w : World) (hr : RdD w w.heap.size A n hs qs) (hn : n ≤ maxLen) :
    Calls Try.prog 10 #[.slice A n c] w fun e w' => ∃ fb, e = .returned (.bool fb) ∧ (fb = true → (n : Int) ≤ 300 ∧ (∀ q ∈ qs, q.length ≤ 60) ∧ qs.flatten.length ≤ 600) ∧ w = w' := by
  by_cases h : (n : Int) ≤ 300
  · exact few_small A n c hs qs w hr h
  · exact (few_big A n c hs qs w hr (by omega) hn).mono fun e w' ⟨h1, h2⟩ => ⟨false, h1, (fun h => by cases h), h2⟩
def lv1 : En := ⟨1, 0, 0⟩
def lv2 : En := ⟨2, 1, 0⟩
theorem lv_is : rehash 2 [[lv1, lv2]] = [[lv1], [], [lv2], []] := by kernel_rfl
theorem lv_plc : plc 2 [[lv1], [], [lv2], []] = true := by kernel_rfl
set_option maxRecDepth 100000 in
set_option maxHeartbeats 2000000 in
theorem lives9 (w : World) : Calls Try.prog 11 #[] w fun e w' => e = .returned (.bool true) ∧ Frm w w' fun _ => False := by
  have hRe : ∀ V A hs, RdD V V.heap.size A 1 hs [[lv1, lv2]] → Calls Try.prog 13 #[.slice A 1 1, .int .i64 2] V fun e w' => ∃ g hs', e = .returned (.slice (some ⟨g, 0, none⟩) 4 4) ∧ OwD w' V.heap.size V.heap.size (some ⟨g, 0, none⟩) 4 4 hs' [[lv1], [], [lv2], []] ∧ Frm V w' fun _ => False := by
    intro V A hs h
    refine (rehash_in A 1 1 2 hs [[lv1, lv2]] V (by decide) (by decide) h (by decide) (by simp) (by simp [lv1, lv2]; exact ⟨⟨by decide, by decide⟩, ⟨by decide, by decide⟩⟩) (by simp)).mono ?_
    rintro e w' ⟨g, hs', he, ho, -, hf⟩
    rw [lv_is] at ho
    exact ⟨g, hs', he, ho, hf⟩
  have HRE := Lib.hid hRe
  clear hRe
  go_enter Try.func11, Try.ntmps11
  go_wp2_with fail
  have hin : RdD ((w.alloc (.cells #[.int .i64 1, .int .u32 0, .int .u64 0, .int .i64 2, .int .u32 1, .int .u64 0] 39)).alloc (.cells #[.slice (some ⟨w.heap.size, 0, none⟩) 2 2] 32)) ((w.alloc (.cells #[.int .i64 1, .int .u32 0, .int .u64 0, .int .i64 2, .int .u32 1, .int .u64 0] 39)).alloc (.cells #[.slice (some ⟨w.heap.size, 0, none⟩) 2 2] 32)).heap.size (some ⟨w.heap.size + 1, 0, none⟩) 1 [⟨some ⟨w.heap.size, 0, none⟩, 2, 2⟩] [[lv1, lv2]] := by
    have h1 := Rd.fresh_at w 39 #[.int .i64 1, .int .u32 0, .int .u64 0, .int .i64 2, .int .u32 1, .int .u64 0] (size := 3) (n := 2) rfl rfl
    have h2 := Rd.fresh_at (w.alloc (.cells #[.int .i64 1, .int .u32 0, .int .u64 0, .int .i64 2, .int .u32 1, .int .u64 0] 39)) 32 #[.slice (some ⟨w.heap.size, 0, none⟩) 2 2] (size := 1) (n := 1) (g := w.heap.size + 1) rfl (by simp)
    refine ⟨h2, rfl, rfl, fun i hi hq => ?_⟩
    obtain rfl : i = 0 := by simp at hi; exact hi
    exact (h1.alloc (Nat.le_refl _) _).more (by simp)
  refine (HRE.out _ _ _ hin).mono ?_
  rintro e w2 ⟨g, hs', rfl, ho, hf⟩
  have hF := (((Frm.refl w fun _ => False).alloc _).alloc _).then_ hf
  obtain ⟨A0, n0, c0, q0, hh0, -, hs0, -, hq0⟩ := ho.at (i := 0) (by decide)
  obtain ⟨A2, n2, c2, q2, hh2, -, hs2, -, hq2⟩ := ho.at (i := 2) (by decide)
  injection hq0 with hq0
  injection hq2 with hq2
  subst hq0 hq2
  have hn0 : n0 = 1 := (Rd.ens hs0.rd).1
  have hn2 : n2 = 1 := (Rd.ens hs2.rd).1
  subst hn0 hn2
  obtain ⟨g0, o0, rfl, -, hc0⟩ := (Rd.ens hs0.rd).2 (by decide)
  obtain ⟨g2, o2, rfl, -, hc2⟩ := (Rd.ens hs2.rd).2 (by decide)
  obtain ⟨y0, -, -⟩ := hc0 0 (by decide)
  obtain ⟨y2, -, -⟩ := hc2 0 (by decide)
  rw [Nat.zero_mul, Nat.add_zero] at y0 y2
  rw [Nat.zero_add] at hh0 hh2
  have x0 : w2.cell? ⟨g0, o0, none⟩ = some (.int .i64 1) := y0
  have x2 : w2.cell? ⟨g2, o2, none⟩ = some (.int .i64 2) := y2
  have HP := Lib.hid (placed_any (some ⟨g, 0, none⟩) 4 4 2 hs' [[lv1], [], [lv2], []] w2 ho.rd (by simp) (by simp [lv1, lv2]; exact ⟨⟨by decide, by decide⟩, ⟨by decide, by decide⟩⟩))
  rw [lv_plc] at HP
  have F := Lib.hid hF
  clear hF hf ho hs0 hs2 hc0 hc2 hin y0 y2
  go_wp2_with (go_at_call 16; refine HP.out.mono ?_; rintro e w3 ⟨rfl, hf3⟩; replace F := Lib.hid (F.out.then_ hf3))
  go_ret
  exact ⟨rfl, F.out⟩
end Go.Proofs.Ytllicaibgjjidaa
