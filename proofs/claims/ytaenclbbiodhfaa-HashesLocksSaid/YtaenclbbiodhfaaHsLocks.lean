import Derived.Test.YtaenclbbiodhfaaHsC
import Derived.Deep.CutRange
namespace Go.Proofs.Ytaenclbbiodhfaa.Locks
open Go.RowKit Go.Proofs.Ytaenclbbiodhfaa
theorem at_world {P : Program} {c : Code} {Q : Exit → Act → World → Prop} {a : Act} {w : World} (h : ∀ W, W = w → c.wp P Q a W) : c.wp P Q a w := h w rfl
theorem sz_apart (n m : Nat) (hn : 2 ≤ n) (hm : m ≤ 8) (h : n < m) : 2 * sz (n : Int) ≤ sz (m : Int) := sz_succ m n hn h hm
theorem size_s (nb s : Nat) (h : sz (nb : Int) = s) (w : World) : Calls Try.prog 50 #[.int .i64 nb] w fun e w' => e = .returned (.int .i64 s) ∧ w = w' := by subst h; exact size_nb nb w
theorem lock_s (n i s L : Nat) (h : sz (n : Int) = s) (hi : i < s) (hL : L = 256 + s + i) (w : World) : Calls Try.prog 52 #[.int .i64 n, .int .i64 i] w fun e w' => e = .returned (.int .u32 L) ∧ w = w' := by subst h hL; exact lock_in n i hi w
theorem of_s (k s i L : Nat) (h2 : 2 ≤ k) (h8 : k ≤ 8) (h : sz (k : Int) = s) (hi : i < s) (hL : L = 256 + s + i) (w : World) : Calls Try.prog 53 #[.int .u32 L] w fun e w' => e = .returned (.tuple #[.int .i64 k, .int .i64 i]) ∧ w = w' := by
  have hle := sz_le (k : Int)
  have := of_in L k (by omega) h2 h8 (by omega) (by omega) w
  rwa [show L - (256 + sz (k : Int)) = i by omega] at this
theorem inside (c : Nat) (h1 : 260 ≤ c) (h2 : c < 768) : ∃ k : Nat, 2 ≤ k ∧ k ≤ 8 ∧ 256 + sz (k : Int) ≤ c ∧ c < 256 + 2 * sz (k : Int) := by
  have s2 : sz ((2 : Nat) : Int) = 4 := by decide
  have s3 : sz ((3 : Nat) : Int) = 8 := by decide
  have s4 : sz ((4 : Nat) : Int) = 16 := by decide
  have s5 : sz ((5 : Nat) : Int) = 32 := by decide
  have s6 : sz ((6 : Nat) : Int) = 64 := by decide
  have s7 : sz ((7 : Nat) : Int) = 128 := by decide
  have s8 : sz ((8 : Nat) : Int) = 256 := by decide
  by_cases a3 : c < 264
  · exact ⟨2, by omega, by omega, by rw [s2]; omega, by rw [s2]; omega⟩
  by_cases a4 : c < 272
  · exact ⟨3, by omega, by omega, by rw [s3]; omega, by rw [s3]; omega⟩
  by_cases a5 : c < 288
  · exact ⟨4, by omega, by omega, by rw [s4]; omega, by rw [s4]; omega⟩
  by_cases a6 : c < 320
  · exact ⟨5, by omega, by omega, by rw [s5]; omega, by rw [s5]; omega⟩
  by_cases a7 : c < 384
  · exact ⟨6, by omega, by omega, by rw [s6]; omega, by rw [s6]; omega⟩
  by_cases a8 : c < 512
  · exact ⟨7, by omega, by omega, by rw [s7]; omega, by rw [s7]; omega⟩
  exact ⟨8, by omega, by omega, by rw [s8]; omega, by rw [s8]; omega⟩
set_option maxRecDepth 100000 in
set_option maxHeartbeats 4000000 in
theorem walk (z0 z1 z2 z3 c : Nat) (h0 : (z0 : Int) ≤ 255) (h1 : (z1 : Int) ≤ 255) (h2 : (z2 : Int) ≤ 255) (h3 : (z3 : Int) ≤ 255) (hc : (c : Int) ≤ 65535) (w : World) :
    Calls Try.prog 12 #[.agg #[.int .u8 z0, .int .u8 z1, .int .u8 z2, .int .u8 z3], .int .u16 c] w fun e w' => e = .returned (.bool true) ∧ Frm w w' fun _ => False := by
  obtain ⟨q0, hq0⟩ : ∃ q, z0 % 7 = q := ⟨_, rfl⟩
  obtain ⟨q1, hq1⟩ : ∃ q, z1 % 7 = q := ⟨_, rfl⟩
  have e0 : (z0 : Int) % 7 = (q0 : Int) := by omega
  have e1 : (z1 : Int) % 7 = (q1 : Int) := by omega
  have g0 : q0 ≤ 6 := by omega
  have g1 : q1 ≤ 6 := by omega
  obtain ⟨n, hn⟩ : ∃ n, n = 2 + q0 := ⟨_, rfl⟩
  obtain ⟨m, hm⟩ : ∃ m, m = 2 + q1 := ⟨_, rfl⟩
  have f0 : (2 : Int) + (q0 : Int) = (n : Int) := by omega
  have f1 : (2 : Int) + (q1 : Int) = (m : Int) := by omega
  have n2 : 2 ≤ n := by omega
  have n8 : n ≤ 8 := by omega
  have m2 : 2 ≤ m := by omega
  have m8 : m ≤ 8 := by omega
  obtain ⟨s, hs⟩ : ∃ s, sz (n : Int) = s := ⟨_, rfl⟩
  obtain ⟨s', hs'⟩ : ∃ s, sz (m : Int) = s := ⟨_, rfl⟩
  have hs4 := sz_ge ((tbl_iff (n : Int)).2 (by omega))
  have hs4' := sz_ge ((tbl_iff (m : Int)).2 (by omega))
  have hsl := sz_le (n : Int)
  have hsl' := sz_le (m : Int)
  rw [hs] at hs4 hsl
  rw [hs'] at hs4' hsl'
  have HS := Lib.hid hs
  have HS' := Lib.hid hs'
  have hmax : ∀ ts t w, (Builtin.max_ ts t #[.int .i64 (s : Int), .int .i64 1]).run Try.prog w = .ok (.int .i64 (s : Int)) w := fun ts t w => by simp [go_sem]; omega
  have hmax' : ∀ ts t w, (Builtin.max_ ts t #[.int .i64 (s' : Int), .int .i64 1]).run Try.prog w = .ok (.int .i64 (s' : Int)) w := fun ts t w => by simp [go_sem]; omega
  obtain ⟨i, hi⟩ : ∃ i, z2 % s = i := ⟨_, rfl⟩
  obtain ⟨k, hk⟩ : ∃ k, z3 % s' = k := ⟨_, rfl⟩
  have hil : i < s := by rw [← hi]; exact Nat.mod_lt _ (by omega)
  have hkl : k < s' := by rw [← hk]; exact Nat.mod_lt _ (by omega)
  have ei : (z2 : Int) % (s : Int) = (i : Int) := by rw [← hi]; rfl
  have ek : (z3 : Int) % (s' : Int) = (k : Int) := by rw [← hk]; rfl
  have sp : (4 : Int) ≤ (s : Int) := by omega
  have sp' : (4 : Int) ≤ (s' : Int) := by omega
  have su : (s : Int) ≤ 256 := by omega
  have su' : (s' : Int) ≤ 256 := by omega
  have HN := Lib.hid hn
  have HM := Lib.hid hm
  clear hq0 hq1 hn hm hs hs'
  obtain ⟨L, hL⟩ : ∃ L, L = 256 + s + i := ⟨_, rfl⟩
  obtain ⟨L', hL'⟩ : ∃ L, L = 256 + s' + k := ⟨_, rfl⟩
  have HL := Lib.hid hL
  have HL' := Lib.hid hL'
  have l0 : (260 : Int) ≤ (L : Int) := by omega
  have l1 : (L : Int) ≤ 767 := by omega
  have l2 : decide ((L : Int) < 260) = false := by simp; omega
  have l3 : decide ((767 : Int) < (L : Int)) = false := by simp; omega
  clear hL hL' hi hk
  by_cases hnm : n = m
  · have hss : s = s' := HS.out.symm.trans ((congrArg (fun x : Nat => sz (x : Int)) hnm).trans HS'.out)
    subst hnm hss
    by_cases hik : i = k
    · subst hik
      have hll : L = L' := HL.out.trans HL'.out.symm
      subst hll
      go_enter Try.func12, Try.ntmps12
      go_wp2_with fail
      refine at_world ?_
      intro W hW
      have hf : Frm w W fun _ => False := by rw [hW]; exact (Frm.refl _ _).alloc _
      have b2 : W.cell? ⟨w.heap.size, 2, none⟩ = some (.int .u8 z2) := by rw [hW, World.cell?_alloc_new]; rfl
      have b3 : W.cell? ⟨w.heap.size, 3, none⟩ = some (.int .u8 z3) := by rw [hW, World.cell?_alloc_new]; rfl
      replace b2 := Grown.cell b2
      have F := Lib.hid hf
      clear hf hW
      refine wp_region_grown W (Frm.refl _ _) (by kernel_rfl) (by kernel_rfl) ?_
      repeat (go_big_quiet_step ((go_at_call 50; refine Calls.grown_same (size_s n s HS.out _))))
      refine wpQuiet_nil ?_
      intro W1 hq
      have F1 := Lib.hid (F.out.then_ hq)
      replace b3 := Grown.cell (hq.cell b3 id)
      clear hq F b2
      go_wp2_with fail
      refine wp_region_grown W1 (Frm.refl _ _) (by kernel_rfl) (by kernel_rfl) ?_
      repeat (go_big_quiet_step ((go_at_call 50; refine Calls.grown_same (size_s n s HS'.out _))))
      refine wpQuiet_nil ?_
      intro W2 hq
      have F2 := Lib.hid (F1.out.then_ hq)
      clear hq F1 b3
      go_wp2_with fail
      refine (lock_s n i s L HS.out hil HL.out _).mono ?_
      rintro e w' ⟨rfl, rfl⟩
      go_wp2_with fail
      refine (lock_s n i s L HS'.out hkl HL'.out _).mono ?_
      rintro e w' ⟨rfl, rfl⟩
      clear ek e0 e1 f0 f1 ei hmax hmax'
      go_wp2_with fail
      refine (of_s n s i L n2 n8 HS.out hil HL.out _).mono ?_
      rintro e w' ⟨rfl, rfl⟩
      go_wp2_with fail
      by_cases hin : 260 ≤ c ∧ c < 768
      · obtain ⟨v, v2, v8, hv1, hv2⟩ := inside c hin.1 hin.2
        obtain ⟨t, ht⟩ : ∃ t, sz (v : Int) = t := ⟨_, rfl⟩
        rw [ht] at hv1 hv2
        obtain ⟨u, hu⟩ : ∃ u, c = 256 + t + u := ⟨c - (256 + t), by omega⟩
        have hut : u < t := by omega
        have HT := Lib.hid ht
        have HU := Lib.hid hu
        have c0 : (260 : Int) ≤ (c : Int) := by omega
        have c1 : (c : Int) ≤ 767 := by omega
        have v0 : (0 : Int) ≤ (v : Int) := by omega
        clear hin hv1 hv2 ht hu
        refine (of_s v t u c v2 v8 HT.out hut HU.out _).mono ?_
        rintro e w' ⟨rfl, rfl⟩
        go_wp2_with (first
          | (go_at_call 52; refine (lock_s v u t c HT.out hut HU.out _).mono ?_; rintro e w' ⟨rfl, rfl⟩)
          | (go_at_call 51; refine (hlives_any _).mono ?_; rintro e w' ⟨rfl, rfl⟩))
        go_ret
        exact ⟨rfl, F2.out⟩
      · refine (of_out c (by omega) (by omega) _).mono ?_
        rintro e w' ⟨rfl, rfl⟩
        by_cases h260 : c < 260
        · have c0 : (c : Int) < 260 := by omega
          clear hin
          go_wp2_with (go_at_call 51; refine (hlives_any _).mono ?_; rintro e w' ⟨rfl, rfl⟩)
          go_ret
          exact ⟨rfl, F2.out⟩
        · have c0 : (260 : Int) ≤ (c : Int) := by omega
          have c1 : (767 : Int) < (c : Int) := by omega
          clear hin
          go_wp2_with (go_at_call 51; refine (hlives_any _).mono ?_; rintro e w' ⟨rfl, rfl⟩)
          go_ret
          exact ⟨rfl, F2.out⟩
    · have b4 : ((L : Int) == (L' : Int)) = false := by have := HL.out; have := HL'.out; simp; omega
      have b5 : ((i : Int) == (k : Int)) = false := by simp; omega
      clear hik
      go_enter Try.func12, Try.ntmps12
      go_wp2_with fail
      refine at_world ?_
      intro W hW
      have hf : Frm w W fun _ => False := by rw [hW]; exact (Frm.refl _ _).alloc _
      have b2 : W.cell? ⟨w.heap.size, 2, none⟩ = some (.int .u8 z2) := by rw [hW, World.cell?_alloc_new]; rfl
      have b3 : W.cell? ⟨w.heap.size, 3, none⟩ = some (.int .u8 z3) := by rw [hW, World.cell?_alloc_new]; rfl
      replace b2 := Grown.cell b2
      have F := Lib.hid hf
      clear hf hW
      refine wp_region_grown W (Frm.refl _ _) (by kernel_rfl) (by kernel_rfl) ?_
      repeat (go_big_quiet_step ((go_at_call 50; refine Calls.grown_same (size_s n s HS.out _))))
      refine wpQuiet_nil ?_
      intro W1 hq
      have F1 := Lib.hid (F.out.then_ hq)
      replace b3 := Grown.cell (hq.cell b3 id)
      clear hq F b2
      go_wp2_with fail
      refine wp_region_grown W1 (Frm.refl _ _) (by kernel_rfl) (by kernel_rfl) ?_
      repeat (go_big_quiet_step ((go_at_call 50; refine Calls.grown_same (size_s n s HS'.out _))))
      refine wpQuiet_nil ?_
      intro W2 hq
      have F2 := Lib.hid (F1.out.then_ hq)
      clear hq F1 b3
      go_wp2_with fail
      refine (lock_s n i s L HS.out hil HL.out _).mono ?_
      rintro e w' ⟨rfl, rfl⟩
      go_wp2_with fail
      refine (lock_s n k s L' HS'.out hkl HL'.out _).mono ?_
      rintro e w' ⟨rfl, rfl⟩
      clear ek e0 e1 f0 f1 ei hmax hmax'
      go_wp2_with fail
      refine (of_s n s i L n2 n8 HS.out hil HL.out _).mono ?_
      rintro e w' ⟨rfl, rfl⟩
      go_wp2_with fail
      by_cases hin : 260 ≤ c ∧ c < 768
      · obtain ⟨v, v2, v8, hv1, hv2⟩ := inside c hin.1 hin.2
        obtain ⟨t, ht⟩ : ∃ t, sz (v : Int) = t := ⟨_, rfl⟩
        rw [ht] at hv1 hv2
        obtain ⟨u, hu⟩ : ∃ u, c = 256 + t + u := ⟨c - (256 + t), by omega⟩
        have hut : u < t := by omega
        have HT := Lib.hid ht
        have HU := Lib.hid hu
        have c0 : (260 : Int) ≤ (c : Int) := by omega
        have c1 : (c : Int) ≤ 767 := by omega
        have v0 : (0 : Int) ≤ (v : Int) := by omega
        clear hin hv1 hv2 ht hu
        refine (of_s v t u c v2 v8 HT.out hut HU.out _).mono ?_
        rintro e w' ⟨rfl, rfl⟩
        go_wp2_with (first
          | (go_at_call 52; refine (lock_s v u t c HT.out hut HU.out _).mono ?_; rintro e w' ⟨rfl, rfl⟩)
          | (go_at_call 51; refine (hlives_any _).mono ?_; rintro e w' ⟨rfl, rfl⟩))
        go_ret
        exact ⟨rfl, F2.out⟩
      · refine (of_out c (by omega) (by omega) _).mono ?_
        rintro e w' ⟨rfl, rfl⟩
        by_cases h260 : c < 260
        · have c0 : (c : Int) < 260 := by omega
          clear hin
          go_wp2_with (go_at_call 51; refine (hlives_any _).mono ?_; rintro e w' ⟨rfl, rfl⟩)
          go_ret
          exact ⟨rfl, F2.out⟩
        · have c0 : (260 : Int) ≤ (c : Int) := by omega
          have c1 : (767 : Int) < (c : Int) := by omega
          clear hin
          go_wp2_with (go_at_call 51; refine (hlives_any _).mono ?_; rintro e w' ⟨rfl, rfl⟩)
          go_ret
          exact ⟨rfl, F2.out⟩
  · have b4 : ((L : Int) == (L' : Int)) = false := by
      have := HL.out
      have := HL'.out
      have h5 := HS.out
      have h6 := HS'.out
      rcases Nat.lt_or_gt_of_ne hnm with h | h
      · have := sz_apart n m n2 m8 h; simp; omega
      · have := sz_apart m n m2 n8 h; simp; omega
    have b5 : ((n : Int) == (m : Int)) = false := by simp; omega
    clear hnm
    go_enter Try.func12, Try.ntmps12
    go_wp2_with fail
    refine at_world ?_
    intro W hW
    have hf : Frm w W fun _ => False := by rw [hW]; exact (Frm.refl _ _).alloc _
    have b2 : W.cell? ⟨w.heap.size, 2, none⟩ = some (.int .u8 z2) := by rw [hW, World.cell?_alloc_new]; rfl
    have b3 : W.cell? ⟨w.heap.size, 3, none⟩ = some (.int .u8 z3) := by rw [hW, World.cell?_alloc_new]; rfl
    replace b2 := Grown.cell b2
    have F := Lib.hid hf
    clear hf hW
    refine wp_region_grown W (Frm.refl _ _) (by kernel_rfl) (by kernel_rfl) ?_
    repeat (go_big_quiet_step ((go_at_call 50; refine Calls.grown_same (size_s n s HS.out _))))
    refine wpQuiet_nil ?_
    intro W1 hq
    have F1 := Lib.hid (F.out.then_ hq)
    replace b3 := Grown.cell (hq.cell b3 id)
    clear hq F b2
    go_wp2_with fail
    refine wp_region_grown W1 (Frm.refl _ _) (by kernel_rfl) (by kernel_rfl) ?_
    repeat (go_big_quiet_step ((go_at_call 50; refine Calls.grown_same (size_s m s' HS'.out _))))
    refine wpQuiet_nil ?_
    intro W2 hq
    have F2 := Lib.hid (F1.out.then_ hq)
    clear hq F1 b3
    go_wp2_with fail
    refine (lock_s n i s L HS.out hil HL.out _).mono ?_
    rintro e w' ⟨rfl, rfl⟩
    go_wp2_with fail
    refine (lock_s m k s' L' HS'.out hkl HL'.out _).mono ?_
    rintro e w' ⟨rfl, rfl⟩
    clear ek e0 e1 f0 f1 ei hmax hmax'
    go_wp2_with fail
    refine (of_s n s i L n2 n8 HS.out hil HL.out _).mono ?_
    rintro e w' ⟨rfl, rfl⟩
    go_wp2_with fail
    by_cases hin : 260 ≤ c ∧ c < 768
    · obtain ⟨v, v2, v8, hv1, hv2⟩ := inside c hin.1 hin.2
      obtain ⟨t, ht⟩ : ∃ t, sz (v : Int) = t := ⟨_, rfl⟩
      rw [ht] at hv1 hv2
      obtain ⟨u, hu⟩ : ∃ u, c = 256 + t + u := ⟨c - (256 + t), by omega⟩
      have hut : u < t := by omega
      have HT := Lib.hid ht
      have HU := Lib.hid hu
      have c0 : (260 : Int) ≤ (c : Int) := by omega
      have c1 : (c : Int) ≤ 767 := by omega
      have v0 : (0 : Int) ≤ (v : Int) := by omega
      clear hin hv1 hv2 ht hu
      refine (of_s v t u c v2 v8 HT.out hut HU.out _).mono ?_
      rintro e w' ⟨rfl, rfl⟩
      go_wp2_with (first
        | (go_at_call 52; refine (lock_s v u t c HT.out hut HU.out _).mono ?_; rintro e w' ⟨rfl, rfl⟩)
        | (go_at_call 51; refine (hlives_any _).mono ?_; rintro e w' ⟨rfl, rfl⟩))
      go_ret
      exact ⟨rfl, F2.out⟩
    · refine (of_out c (by omega) (by omega) _).mono ?_
      rintro e w' ⟨rfl, rfl⟩
      by_cases h260 : c < 260
      · have c0 : (c : Int) < 260 := by omega
        clear hin
        go_wp2_with (go_at_call 51; refine (hlives_any _).mono ?_; rintro e w' ⟨rfl, rfl⟩)
        go_ret
        exact ⟨rfl, F2.out⟩
      · have c0 : (260 : Int) ≤ (c : Int) := by omega
        have c1 : (767 : Int) < (c : Int) := by omega
        clear hin
        go_wp2_with (go_at_call 51; refine (hlives_any _).mono ?_; rintro e w' ⟨rfl, rfl⟩)
        go_ret
        exact ⟨rfl, F2.out⟩
end Go.Proofs.Ytaenclbbiodhfaa.Locks
