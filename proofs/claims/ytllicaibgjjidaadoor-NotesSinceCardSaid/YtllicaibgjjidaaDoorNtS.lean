import Derived.Test.YtllicaibgjjidaaDoorNtC
import Derived.Test.YtllicaibgjjidaaDoorGrw
namespace Go.Proofs.YtllicaibgjjidaaDoor
open Go.RowKit

def Oks (xs : List Nt) : Prop := ∀ n ∈ xs, 0 ≤ n.k ∧ n.k ≤ 255
theorem Rd.at {c : Nt → List Value} (hc : ∀ n, (c n).length = 7) {w : World} {B m : Nat} {A : Option Addr} {xs : List Nt} (h : Rd w B 7 A m (xs.flatMap c)) : m = xs.length ∧ (0 < m → ∃ g off, A = some ⟨g, off, none⟩ ∧ g < B ∧ ∀ i (hi : i < xs.length) j u, (c xs[i])[j]? = some u → w.cell? ⟨g, off + i * 7 + j, none⟩ = some u) := by
  have hl := h.1
  rw [flat_len c 7 hc] at hl
  have hm : m = xs.length := by omega
  refine ⟨hm, fun h0 => ?_⟩
  obtain ⟨g, off, e, hb, hcell⟩ := h.2 (by rw [flat_len c 7 hc]; omega)
  refine ⟨g, off, e, hb, fun i hi j u hu => ?_⟩
  have hj : j < 7 := by rw [← hc xs[i]]; exact (List.getElem?_eq_some_iff.1 hu).1
  rw [Nat.add_assoc]
  exact hcell _ u ((flat_get c 7 hc xs i j hi hj).trans hu)

/-- The two lists tell the same. -/
theorem same_any (B m cap cap' : Nat) (A A' : Option Addr) (xs : List Nt) (w : World) (hx : Oks xs) (hP : Rd w B 7 A m (xs.flatMap Nt.P)) (hR : Rd w B 7 A' m (xs.flatMap Nt.R)) (hm : m ≤ 9223372036854775807) :
    Calls Tryd.prog 17 #[.slice A m cap, .slice A' m cap'] w fun e w' => e = .returned (.bool true) ∧ Frm w w' fun _ => False := by
  obtain ⟨em, hP'⟩ := hP.at lenP
  obtain ⟨_, hR'⟩ := hR.at lenR
  clear hP hR
  have HP := Lib.hid hP'
  have HR := Lib.hid hR'
  have hX := Lib.hid hx
  have bn : ((m : Int) != (m : Int)) = false := by simp
  replace em := Lib.hid em
  clear hP' hR' hx
  go_enter Tryd.func17, Tryd.ntmps17
  go_wp2_with fail
  go_loopw [5] (fun i wr => ∃ k : Nat, i = .int .i64 k ∧ k ≤ m ∧ Frm w wr (fun _ => False)) (fun i _ => m - (intOf i).toNat)
  case atStart => exact ⟨0, rfl, by omega, Frm.refl _ _⟩
  case round =>
    obtain ⟨k, rfl, hk, hS⟩ := hrel
    by_cases hlt : k < m
    · obtain ⟨g, off, rfl, hgB, cP⟩ := HP.out (by omega)
      obtain ⟨g', off', rfl, hgB', cR⟩ := HR.out (by omega)
      have hkx : k < xs.length := by have := em.out; omega
      obtain ⟨k0, k1⟩ := hX.out xs[k] (List.getElem_mem hkx)
      obtain ⟨x, hxk⟩ : ∃ x, xs[k] = x := ⟨_, rfl⟩
      rw [hxk] at k0 k1
      have p0 := Grown.cell (hS.cell (show w.cell? ⟨g, off + k * 7, none⟩ = some (.int .i64 x.s) from cP k hkx 0 _ (by rw [hxk]; rfl)) id)
      have p1 := Grown.cell (hS.cell (cP k hkx 1 _ (by rw [hxk]; rfl)) id)
      have p2 := Grown.cell (hS.cell (cP k hkx 2 _ (by rw [hxk]; rfl)) id)
      have p3 := Grown.cell (hS.cell (cP k hkx 3 _ (by rw [hxk]; rfl)) id)
      have p4 := Grown.cell (hS.cell (cP k hkx 4 _ (by rw [hxk]; rfl)) id)
      have p5 := Grown.cell (hS.cell (cP k hkx 5 _ (by rw [hxk]; rfl)) id)
      have p6 := Grown.cell (hS.cell (cP k hkx 6 _ (by rw [hxk]; rfl)) id)
      have r0 := Grown.cell (hS.cell (show w.cell? ⟨g', off' + k * 7, none⟩ = some (.int .i64 x.s) from cR k hkx 0 _ (by rw [hxk]; rfl)) id)
      have r1 := Grown.cell (hS.cell (cR k hkx 1 _ (by rw [hxk]; rfl)) id)
      have r2 := Grown.cell (hS.cell (cR k hkx 2 _ (by rw [hxk]; rfl)) id)
      have r3 := Grown.cell (hS.cell (cR k hkx 3 _ (by rw [hxk]; rfl)) id)
      have r4 := Grown.cell (hS.cell (cR k hkx 4 _ (by rw [hxk]; rfl)) id)
      have r5 := Grown.cell (hS.cell (cR k hkx 5 _ (by rw [hxk]; rfl)) id)
      have r6 := Grown.cell (hS.cell (cR k hkx 6 _ (by rw [hxk]; rfl)) id)
      have HS := Lib.hid hS
      have i0 : (0 : Int) ≤ (k : Int) := by omega
      have i1 : (k : Int) < (m : Int) := by omega
      clear hS cP cR hxk hkx
      go_wp2_with fail
      refine wp_region_grown wr (by (exact Frm.refl _ _)) (by kernel_rfl) (by kernel_rfl) ?_
      repeat (go_big_quiet_step ((go_at_call 13; refine Calls.grown_of (other_any x k0 k1 _))))
      refine wpQuiet_nil ?_
      intro wq hq
      go_wp2_with fail
      go_roundw
      case rel => exact ⟨k + 1, by go_num, by omega, HS.out.then_ hq⟩
      case measure => simp [intOf]; omega
    · have hkm : k = m := by omega
      subst hkm
      have HS := Lib.hid hS
      clear hS
      go_wp2_with fail
      go_ret
      exact ⟨rfl, HS.out⟩

theorem clip_any (m cap : Nat) (A : Option Addr) (w : World) (h : m ≤ cap) : Calls Tryd.prog 20 #[.slice A m cap] w fun e w' => e = .returned (.slice A m m) ∧ w = w' := by
  have h1 : (0 : Int) ≤ (m : Int) := by omega
  have h2 : (m : Int) ≤ (cap : Int) := by omega
  go_enter Tryd.func20, Tryd.ntmps20
  go_wp2
  go_ret
  exact ⟨rfl, rfl⟩

theorem count_flat {c : Nt → List Value} (hc : ∀ n, (c n).length = 7) (xs : List Nt) (i : Nat) : (xs.flatMap c).drop (i * 7) = (xs.drop i).flatMap c := by
  induction xs generalizing i with
  | nil => simp
  | cons x xs ih =>
    cases i with
    | zero => simp
    | succ i =>
      rw [List.flatMap_cons, List.drop_succ_cons, List.drop_append, hc, ← ih i, show (i + 1) * 7 - 7 = i * 7 by omega, List.drop_eq_nil_of_le (by rw [hc]; omega), List.nil_append]
theorem all_oneP (xs : List Nt) : ∀ u ∈ xs.flatMap Nt.P, u.oneCell' = true := by
  intro u hu
  obtain ⟨n, _, hn⟩ := List.mem_flatMap.1 hu
  exact oneP n u hn
/-- A copy. -/
theorem clone_any (m cap : Nat) (a : Addr) (xs : List Value) (h1 : ∀ u ∈ xs, u.oneCell' = true) (w : World) (hR : Rd w w.heap.size 7 (some a) m xs) (h63 : m ≤ maxLen) (hby : m * 48 ≤ 140737488355328) :
    Calls Tryd.prog 21 #[.slice (some a) m cap] w fun e w' => ∃ A' cap', e = .returned (.slice A' m cap') ∧ Sl w' w.heap.size 7 A' m cap' xs ∧ Frm w w' fun _ => False := by
  obtain ⟨i32, hi, hz0, hz1, hz2⟩ := info_parts info32
  have HR := Lib.hid hR
  have he : ∀ w : World, (binOp .eql 36 (.slice (some a) m cap) (.slice none 0 0)).run Tryd.prog w = .ok (.bool false) w := fun _ => rfl
  clear hR
  go_enter Tryd.func21, Tryd.ntmps21
  have hsl : Hid (Sl (w.alloc (.cells #[] 32)) w.heap.size 7 (some ⟨w.heap.size, 0, none⟩) 0 0 []) := Sl.new w (Nat.le_refl _) 32 #[] rfl (Nat.le_refl _) (by unfold maxLen; omega) rfl
  have hrd := Lib.hid ((HR.out.alloc (Nat.le_refl _) (.cells #[] 32)).more (B' := (w.alloc (.cells #[] 32)).heap.size) (by simp))
  go_wp2_with (at_builtin; refine wpList_append_sl _ rfl (.tmp 5) (.tmp 6) 36 rfl w.heap.size 32 i32 _ 7 48 Tryd.underlying36 hi hz0 hz1 hz2 rfl (by decide) _ _ _ [] rfl hsl.out _ m cap xs rfl hrd.out h1 (by omega) (by omega) (by simp) ?_; intro A' cap' w2 hap)
  go_ret
  refine ⟨A', cap', by simp, by simpa using hap.1, ((Frm.refl w fun _ => False).alloc (.cells #[] 32)).trans hap.2.1 fun j hj hb => ?_⟩
  rw [blk_some] at hb
  omega

theorem since_nat (B b cap : Nat) (A : Option Addr) (xs : List Nt) (j : Nat) (w : World) (_hb : B ≤ w.heap.size) (h : Lst Nt.P w B b A cap xs) (hlen : Few xs.length) :
    Calls Tryd.prog 16 #[.pointer (some ⟨b, 0, none⟩), .int .i64 (j : Int)] w fun e w' => ∃ A', e = .returned (.slice A' (xs.length - j) (xs.length - j)) ∧ Sl w' w.heap.size 7 A' (xs.length - j) (xs.length - j) ((xs.drop j).flatMap Nt.P) ∧ Frm w w' fun _ => False := by
  have hhd := h.head
  have hj0 : ¬ (j : Int) < 0 := by omega
  by_cases hge : xs.length ≤ j
  · have e0 : Hid ((xs.length - j) = 0 ∧ xs.drop j = []) := ⟨by omega, List.drop_eq_nil_of_le hge⟩
    have b1 : decide ((xs.length : Int) ≤ (j : Int)) = true := decide_eq_true (by omega)
    clear h
    go_enter Tryd.func16, Tryd.ntmps16
    go_wp2_with (go_at_call 14; refine (count_any b xs.length cap A w hhd).mono ?_; rintro e w' ⟨rfl, rfl⟩)
    go_ret
    rw [e0.out.1, e0.out.2]
    exact ⟨none, rfl, Sl.nil _ _ _, Frm.refl _ _⟩
  · have hlt : j < xs.length := by omega
    have hle := h.sl.le
    obtain ⟨g, off, rfl, hcut⟩ := h.sl.cut (k := j) (by omega) (by omega)
    rw [count_flat lenP] at hcut
    have hrd := Lib.hid ((hcut.rd))
    have hroom := hlen.lt
    have hmm : (xs.length - j) ≤ maxLen := by unfold maxLen; omega
    have hby : (xs.length - j) * 48 ≤ 140737488355328 := by omega
    have i1 : ((j : Int) : Int) ≤ (cap : Int) := by omega
    have i2 : ((j : Int) : Int) ≤ (xs.length : Int) := by omega
    have h1 := Lib.hid (all_oneP (xs.drop j))
    have b1 : decide ((xs.length : Int) ≤ (j : Int)) = false := by simp; omega
    have hcj : ¬ cap = j := by omega
    clear h hcut hroom
    go_enter Tryd.func16, Tryd.ntmps16
    go_wp2_with (first | (go_at_call 14; refine (count_any b xs.length cap _ w hhd).mono ?_; rintro e w' ⟨rfl, rfl⟩) | (go_at_call 21; refine (clone_any (xs.length - j) _ _ _ h1.out w hrd.out hmm hby).mono ?_; rintro e w' ⟨A', cap', rfl, hsl, hf⟩) | (go_at_call 20; refine (clip_any (xs.length - j) cap' A' w' hsl.le).mono ?_; rintro e w' ⟨rfl, rfl⟩))
    go_ret
    exact ⟨A', rfl, hsl.clip (Nat.le_refl _) hsl.le, hf⟩
theorem since_neg (B b cap : Nat) (A : Option Addr) (xs : List Nt) (i : Int) (hi : i < 0) (w : World) (_hb : B ≤ w.heap.size) (h : Lst Nt.P w B b A cap xs) (hlen : Few xs.length) :
    Calls Tryd.prog 16 #[.pointer (some ⟨b, 0, none⟩), .int .i64 i] w fun e w' => ∃ A', e = .returned (.slice A' xs.length xs.length) ∧ Sl w' w.heap.size 7 A' xs.length xs.length (xs.flatMap Nt.P) ∧ Frm w w' fun _ => False := by
  have hhd := h.head
  obtain ⟨n, hn⟩ : ∃ n, xs.length = n := ⟨_, rfl⟩
  have hsl := h.sl
  rw [hn] at hhd hlen hsl ⊢
  by_cases hge : n = 0
  · subst hge
    have e0 : Hid (xs = []) := List.eq_nil_of_length_eq_zero hn
    clear h hsl hn
    go_enter Tryd.func16, Tryd.ntmps16
    go_wp2_with (go_at_call 14; refine (count_any b 0 cap A w hhd).mono ?_; rintro e w' ⟨rfl, rfl⟩)
    go_ret
    rw [e0.out]
    exact ⟨none, rfl, Sl.nil _ _ _, Frm.refl _ _⟩
  · obtain ⟨m, rfl⟩ : ∃ m, n = m + 1 := ⟨n - 1, by omega⟩
    have hle := hsl.le
    obtain ⟨g, off, rfl, _⟩ := hsl.form (by omega)
    have hrd := Lib.hid hsl.rd
    have hroom := hlen.lt
    have hmm : m + 1 ≤ maxLen := by unfold maxLen; omega
    have hby : (m + 1) * 48 ≤ 140737488355328 := by omega
    have i1 : (0 : Int) ≤ (cap : Int) := by omega
    have i2 : (0 : Int) ≤ (m : Int) + 1 := by omega
    have i3 : ¬ (m : Int) + 1 ≤ 0 := by omega
    have h1 := Lib.hid (all_oneP xs)
    have hcj : ¬ cap = 0 := by omega
    clear h hge hroom hn hsl
    go_enter Tryd.func16, Tryd.ntmps16
    go_wp2_with (first | (go_at_call 14; refine (count_any b (m + 1) cap _ w hhd).mono ?_; rintro e w' ⟨rfl, rfl⟩) | (go_at_call 21; refine (clone_any (m + 1) _ _ _ h1.out w hrd.out hmm hby).mono ?_; rintro e w' ⟨A', cap', rfl, hsl, hf⟩) | (go_at_call 20; refine (clip_any (m + 1) cap' A' w' hsl.le).mono ?_; rintro e w' ⟨rfl, rfl⟩))
    go_ret
    exact ⟨A', rfl, hsl.clip (Nat.le_refl _) hsl.le, hf⟩
/-- What a list tells from i on. -/
theorem since_any (B b cap : Nat) (A : Option Addr) (xs : List Nt) (i : Int) (w : World) (hb : B ≤ w.heap.size) (h : Lst Nt.P w B b A cap xs) (hlen : Few xs.length) :
    Calls Tryd.prog 16 #[.pointer (some ⟨b, 0, none⟩), .int .i64 i] w fun e w' => ∃ A', e = .returned (.slice A' (xs.length - i.toNat) (xs.length - i.toNat)) ∧ Sl w' w.heap.size 7 A' (xs.length - i.toNat) (xs.length - i.toNat) ((xs.drop i.toNat).flatMap Nt.P) ∧ Frm w w' fun _ => False := by
  by_cases hi : i < 0
  · rw [show i.toNat = 0 by omega, Nat.sub_zero, List.drop_zero]
    exact since_neg B b cap A xs i hi w hb h hlen
  · obtain ⟨j, rfl⟩ := Int.eq_ofNat_of_zero_le (Int.not_lt.1 hi)
    exact since_nat B b cap A xs j w hb h hlen
theorem all_any (B b cap : Nat) (A : Option Addr) (xs : List Nt) (w : World) (hb : B ≤ w.heap.size) (h : Lst Nt.P w B b A cap xs) (hlen : Few xs.length) :
    Calls Tryd.prog 15 #[.pointer (some ⟨b, 0, none⟩)] w fun e w' => ∃ A', e = .returned (.slice A' xs.length xs.length) ∧ Sl w' w.heap.size 7 A' xs.length xs.length (xs.flatMap Nt.P) ∧ Frm w w' fun _ => False := by
  have C := since_any B b cap A xs 0 w hb h hlen
  simp only [Int.toNat_zero, Nat.sub_zero, List.drop_zero] at C
  go_enter Tryd.func15, Tryd.ntmps15
  go_wp2_with (go_at_call 16; refine C.mono ?_; rintro e w' ⟨A', rfl, hsl, hf⟩)
  go_ret
  exact ⟨A', rfl, hsl, hf⟩
theorem since_none (i : Int) (w : World) : Calls Tryd.prog 16 #[.pointer none, .int .i64 i] w fun e w' => e = .returned (.slice none 0 0) ∧ w = w' := by
  by_cases hi : i < 0
  · go_enter Tryd.func16, Tryd.ntmps16
    go_wp2_with (go_at_call 14; refine (count_nil w).mono ?_; rintro e w' ⟨rfl, rfl⟩)
    go_ret
    exact ⟨rfl, rfl⟩
  · have h0 : 0 ≤ i := by omega
    go_enter Tryd.func16, Tryd.ntmps16
    go_wp2_with (go_at_call 14; refine (count_nil w).mono ?_; rintro e w' ⟨rfl, rfl⟩)
    go_ret
    exact ⟨rfl, rfl⟩
theorem all_none (w : World) : Calls Tryd.prog 15 #[.pointer none] w fun e w' => e = .returned (.slice none 0 0) ∧ w = w' := by
  go_enter Tryd.func15, Tryd.ntmps15
  go_wp2_with (go_at_call 16; refine (since_none 0 w).mono ?_; rintro e w' ⟨rfl, rfl⟩)
  go_ret
  exact ⟨rfl, rfl⟩
end Go.Proofs.YtllicaibgjjidaaDoor
