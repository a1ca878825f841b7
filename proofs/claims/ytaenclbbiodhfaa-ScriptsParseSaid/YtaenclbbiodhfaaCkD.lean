import Derived.Test.YtaenclbbiodhfaaCkC
import Derived.Test.YtaenclbbiodhfaaSlc
namespace Go.Proofs.Ytaenclbbiodhfaa
open Go.RowKit

theorem info33 : (Try.prog.info? 33).map (fun i => (i.zero, i.size, i.bytes)) = some (some (.int .u64 0), 1, 8) := by kernel_rfl
/-- More draws have come. -/
def Mored (b now most : Nat) (ds : List Nat) (w w' : World) : Prop := ∃ A' cap', Clk w' b A' cap' now most ds ∧ Frm w w' (fun k => k = b) ∧ ∀ k, blk A' k → w.heap.size ≤ k
/-- So many and so many more are no more than may be. -/
structure Fit (n m : Nat) : Prop where
  le : n + m ≤ 65536
theorem Fit.min {n m : Nat} (h : Fit n m) (ts : Array TypeId) (t : TypeId) (w : World) : (Builtin.min_ ts t #[.int .i64 (m : Int), .int .i64 (65536 - (n : Int))]).run Try.prog w = .ok (.int .i64 (m : Int)) w := by
  have := h.le
  simp [go_sem]
  omega
theorem Fit.small {n m : Nat} (h : Fit n m) : n ≤ 9223372036854775807 ∧ m ≤ 9223372036854775807 ∧ n + m ≤ 9223372036854775807 := by have := h.le; omega
theorem Fit.make {n m : Nat} (h : Fit n m) : 8 * (n + m) ≤ 281474976710656 ∧ n + m ≤ maxLen := by have := h.le; unfold maxLen; omega
theorem hd0 {size n b : Nat} : 0 < n → ∀ g o, (some ⟨b, 0, none⟩ : Option Addr) = some ⟨g, o, none⟩ → (some ⟨b, 0, none⟩ : Option Addr) = some ⟨g, o + 0 * size, none⟩ := fun _ g o e => by rw [e]; simp
theorem more_sl {w : World} {B n m k : Nat} {D : Option Addr} {xs ys Z : List Value} (hk : k = n + m) (h : Sl w B 1 D (n + m) (n + m) (((Z.take (0 * 1) ++ (xs.take (n * 1) ++ Z.drop ((0 + n) * 1))).take (n * 1)) ++ (ys.take (m * 1) ++ (Z.take (0 * 1) ++ (xs.take (n * 1) ++ Z.drop ((0 + n) * 1))).drop ((n + m) * 1)))) (hx : xs.length = n * 1) (hy : ys.length = m * 1) :
    Sl w B 1 D k k (xs ++ ys) := by
  subst hk
  have h3 := h.len
  simp only [Nat.mul_one, Nat.zero_add, List.take_zero, List.nil_append] at *
  have e1 : xs.take n = xs := List.take_of_length_le (by omega)
  have e2 : ys.take m = ys := List.take_of_length_le (by omega)
  rw [e1, e2] at h h3
  have e3 : (xs ++ Z.drop n).take n = xs := by rw [← hx]; simp
  rw [e3] at h h3
  have e4 : (xs ++ Z.drop n).drop (n + m) = [] := by
    refine List.eq_nil_of_length_eq_zero ?_
    rw [List.length_append, List.length_append] at h3
    omega
  rw [e4] at h
  simpa using h
/-- What More leaves: the slice that is laid into the clock. -/
def MoreW (b n m : Nat) (xs ys : List Value) (w w' : World) : Prop := ∃ w3 A' cap', w' = w3.setCell ⟨b, 1, none⟩ (.slice A' (n + m) cap') ∧ (Frm w w3 fun _ => False) ∧ Sl w3 w.heap.size 1 A' (n + m) cap' (xs ++ ys)
set_option maxRecDepth 100000 in
set_option maxHeartbeats 400000 in
theorem more_walk0 (b n cap c : Nat) (A X : Option Addr) (xs ys : List Value) (w : World) (c1 : w.cell? ⟨b, 1, none⟩ = some (.slice A n cap)) (f1 : w.frozen? ⟨b, 1, none⟩ = false) (hlt : b < w.heap.size)
    (h : Sl w 0 1 A n cap xs) (hr : Rd w w.heap.size 1 X 0 ys) (h1 : ∀ u ∈ xs, u.oneCell' = true) (h2 : ∀ u ∈ ys, u.oneCell' = true) (hl : Fit n 0) :
    Calls Try.prog 42 #[.pointer (some ⟨b, 0, none⟩), .slice X 0 c] w fun e w' => e = .returned (.tuple #[]) ∧ MoreW b n 0 xs ys w w' := by
  have H := Lib.hid h
  have HR := Lib.hid hr
  obtain ⟨i33, hi, hz0, hz1, hz2⟩ := info_parts info33
  have hmin := hl.min
  obtain ⟨s1, s2, s3⟩ := hl.small
  have m1 := hl.make
  simp only [Nat.add_zero, Int.natCast_zero] at hmin s3 m1
  clear h hr hl
  go_enter Try.func42, Try.ntmps42
  go_wp2_with (first
    | (at_make; refine wpList_make_sl _ rfl _ _ 28 rfl 33 i33 _ 1 Try.underlying28 hi hz0 hz1 _ _ _ _ (n + 0) rfl rfl (by omega) (by omega) (by rw [hz2]; exact m1.1) m1.2 ?_; intro w1 hs1 hf1 hw1; generalize (madeCells _ _).toList = Z at hs1; have c11 := hf1.cell c1 id; have S1 := Lib.hid hs1; have F1 := Lib.hid hf1; clear hs1 hf1)
    | (refine wpList_copy_sl _ rfl (.tmp 26) (.tmp 30) 28 28 rfl 33 i33 1 Try.underlying28 hi hz1 _ _ _ _ S1.out 0 _ _ _ rfl (by omega) hd0 _ _ _ xs rfl (H.out.new_ F1.out).rd h1 n (by simp) ?_; intro w2 hs2 hf2; have S2 := Lib.hid hs2; have F2 := Lib.hid (F1.out.fresh hf2 blk_ge); clear hs2 hf2)
    | (refine wpList_copy_sl _ rfl (.tmp 32) (.tmp 33) 28 28 rfl 33 i33 1 Try.underlying28 hi hz1 _ _ _ _ S2.out n 0 _ _ rfl (by omega) (fun h => absurd h (by simp)) _ _ _ ys rfl (HR.out.new_ F2.out) h2 0 (by simp) ?_; intro w3 hs3 hf3; have F3 := Lib.hid (F2.out.fresh hf3 blk_ge); have c31 := F3.out.cell c1 id; have f31 := (F3.out.frozen (p := ⟨b, 1, none⟩) hlt id).trans f1; have S3 := Lib.hid hs3; clear hs3 hf3))
  go_end0
  exact ⟨rfl, _, _, _, rfl, F3.out, more_sl (by simp) S3.out H.out.len HR.out.1⟩

set_option maxRecDepth 100000 in
set_option maxHeartbeats 400000 in
theorem more_walk1 (b n m cap c : Nat) (A X : Option Addr) (xs ys : List Value) (w : World) (c1 : w.cell? ⟨b, 1, none⟩ = some (.slice A n cap)) (f1 : w.frozen? ⟨b, 1, none⟩ = false) (hlt : b < w.heap.size)
    (h : Sl w 0 1 A n cap xs) (hr : Rd w w.heap.size 1 X m ys) (h1 : ∀ u ∈ xs, u.oneCell' = true) (h2 : ∀ u ∈ ys, u.oneCell' = true) (hl : Fit n m) (hp : 0 < m) :
    Calls Try.prog 42 #[.pointer (some ⟨b, 0, none⟩), .slice X m c] w fun e w' => e = .returned (.tuple #[]) ∧ MoreW b n m xs ys w w' := by
  have H := Lib.hid h
  have HR := Lib.hid hr
  obtain ⟨i33, hi, hz0, hz1, hz2⟩ := info_parts info33
  have hmin := hl.min
  obtain ⟨s1, s2, s3⟩ := hl.small
  have m1 := hl.make
  have hp' : ¬ m = 0 := by omega
  clear h hr hl
  go_enter Try.func42, Try.ntmps42
  go_wp2_with (first
    | (at_make; refine wpList_make_sl _ rfl _ _ 28 rfl 33 i33 _ 1 Try.underlying28 hi hz0 hz1 _ _ _ _ (n + m) rfl rfl (by omega) (by omega) (by rw [hz2]; exact m1.1) m1.2 ?_; intro w1 hs1 hf1 hw1; generalize (madeCells _ _).toList = Z at hs1; have c11 := hf1.cell c1 id; have S1 := Lib.hid hs1; have F1 := Lib.hid hf1; clear hs1 hf1)
    | (refine wpList_copy_sl _ rfl (.tmp 26) (.tmp 30) 28 28 rfl 33 i33 1 Try.underlying28 hi hz1 _ _ _ _ S1.out 0 _ _ _ rfl (by omega) hd0 _ _ _ xs rfl (H.out.new_ F1.out).rd h1 n (by simp) ?_; intro w2 hs2 hf2; have S2 := Lib.hid hs2; have F2 := Lib.hid (F1.out.fresh hf2 blk_ge); clear hs2 hf2)
    | (refine wpList_copy_sl _ rfl (.tmp 32) (.tmp 33) 28 28 rfl 33 i33 1 Try.underlying28 hi hz1 _ _ _ _ S2.out n m _ _ rfl (by omega) (fun _ g o e => by rw [Nat.mul_one]; injection e with e; injection e with e1 e2; subst e1 e2; simp) _ _ _ ys rfl (HR.out.new_ F2.out) h2 m (by simp) ?_; intro w3 hs3 hf3; have F3 := Lib.hid (F2.out.fresh hf3 blk_ge); have c31 := F3.out.cell c1 id; have f31 := (F3.out.frozen (p := ⟨b, 1, none⟩) hlt id).trans f1; have S3 := Lib.hid hs3; clear hs3 hf3))
  go_end0
  exact ⟨rfl, _, _, _, rfl, F3.out, more_sl (by simp) S3.out H.out.len HR.out.1⟩

theorem mored_of {b cap now most : Nat} {A : Option Addr} {ds l : List Nat} {w w' : World} (h : Clk w b A cap now most ds) (hu : ∀ d ∈ l, U d) (hm : MoreW b ds.length l.length (us ds) (us l) w w') : Mored b now most (ds ++ l) w w' := by
  obtain ⟨w3, A', cap', rfl, hf, hs⟩ := hm
  have nb : ¬ blk A' b := fun k => by have := (hs.ge k).1; have := h.lt; omega
  have hs' : Sl w3 0 1 A' (ds ++ l).length cap' (us (ds ++ l)) := by
    have := hs.mono (Nat.zero_le _)
    simpa [us] using this
  have hput := (h.new_ hf).put hs' nb (fun d hd => by
    rcases List.mem_append.1 hd with hd | hd
    · exact h.uds d hd
    · exact hu d hd)
  rw [List.length_append] at hput
  exact ⟨_, _, hput, (hf.none_ _).trans (Frm.set1 _ _ _ _) (fun _ _ h => h), fun k hk => (hs.ge hk).1⟩
theorem more_any (b cap now most : Nat) (A : Option Addr) (ds l : List Nat) (X : Option Addr) (c : Nat) (w : World) (h : Clk w b A cap now most ds) (hr : Rd w w.heap.size 1 X l.length (us l)) (hl : Fit ds.length l.length) (hu : ∀ d ∈ l, U d) :
    Calls Try.prog 42 #[.pointer (some ⟨b, 0, none⟩), .slice X l.length c] w fun e w' => e = .returned (.tuple #[]) ∧ Mored b now most (ds ++ l) w w' := by
  have hc : Calls Try.prog 42 #[.pointer (some ⟨b, 0, none⟩), .slice X l.length c] w fun e w' => e = .returned (.tuple #[]) ∧ MoreW b ds.length l.length (us ds) (us l) w w' := by
    by_cases h0 : l = []
    · subst h0
      exact more_walk0 b ds.length cap c A X (us ds) _ w h.c1 (h.free 1) h.lt h.sl hr (us_one ds) (us_one _) hl
    · exact more_walk1 b ds.length l.length cap c A X (us ds) _ w h.c1 (h.free 1) h.lt h.sl hr (us_one ds) (us_one _) hl (List.length_pos_iff.2 h0)
  exact hc.mono fun e w' ⟨he, hm⟩ => ⟨he, mored_of h hu hm⟩
theorem more_nil (X : Option Addr) (m c : Nat) (w : World) : Calls Try.prog 42 #[.pointer none, .slice X m c] w fun e w' => e = .returned (.tuple #[]) ∧ w = w' := by
  go_enter Try.func42, Try.ntmps42
  go_wp2
  refine bodyPost_ret (results_none rfl _ _ _) rfl ?_
  exact ⟨rfl, rfl⟩
theorem clk_new (w : World) (t : TypeId) (most : Nat) (hm : U most) : Clk (w.alloc (.cells #[.int .u64 0, .slice none 0 0, .int .u64 most] t)) w.heap.size none 0 0 most [] :=
  ⟨by rw [World.cell?_alloc_new]; rfl, by rw [World.cell?_alloc_new]; rfl, by rw [World.cell?_alloc_new]; rfl, fun i => World.frozen?_alloc_new w _ t i, Sl.nil _ _ _, fun h => (blk_none _ h).elim, U.zero, hm, fun _ h => by cases h⟩
/-- A new clock. -/
def Newed (most : Nat) (ds : List Nat) (w w' : World) (v : Value) : Prop := ∃ b A cap, v = .pointer (some ⟨b, 0, none⟩) ∧ Clk w' b A cap 0 most ds ∧ (Frm w w' fun _ => False) ∧ w.heap.size ≤ b ∧ ∀ k, blk A k → w.heap.size ≤ k
theorem newed_of {most : Nat} {ds : List Nat} {w w1 w' : World} {b : Nat} (hf : Frm w w1 fun _ => False) (hb : w.heap.size ≤ b) (h : Mored b 0 most ds w1 w') : Newed most ds w w' (.pointer (some ⟨b, 0, none⟩)) := by
  obtain ⟨A, cap, hc, hf2, hA⟩ := h
  exact ⟨b, A, cap, rfl, hc, hf.fresh hf2 (fun j hj => by subst hj; exact hb), hb, fun k hk => Nat.le_trans hf.size (hA k hk)⟩
theorem fit0 {m : Nat} (h : m ≤ 65536) : Fit 0 m := ⟨by omega⟩
theorem new_any (most : Nat) (l : List Nat) (X : Option Addr) (c : Nat) (hm : U most) (w : World) (hr : Rd w w.heap.size 1 X l.length (us l)) (hl : Fit 0 l.length) (hu : ∀ d ∈ l, U d) :
    Calls Try.prog 36 #[.slice X l.length c, .int .u64 most] w fun e w' => ∃ v, e = .returned v ∧ Newed most l w w' v := by
  have K := Lib.hid (clk_new w 89 most hm)
  have R := Lib.hid (hr.new_ ((Frm.refl w _).alloc (.cells #[.int .u64 0, .slice none 0 0, .int .u64 most] 89)))
  clear hr
  go_enter Try.func36, Try.ntmps36
  go_wp2_with (go_at_call 42; refine (more_any _ _ _ _ _ _ _ _ _ _ K.out R.out hl hu).mono ?_; rintro e w' ⟨rfl, hmo⟩; have M := Lib.hid hmo; clear hmo)
  go_ret
  exact ⟨_, rfl, newed_of ((Frm.refl w _).alloc _) (Nat.le_refl _) M.out⟩
theorem Fit.room {n m : Nat} (h : Fit n m) : 0 + n ≤ maxLen ∧ (0 + n) * 8 ≤ 140737488355328 ∧ n + m ≤ maxLen ∧ (n + m) * 8 ≤ 140737488355328 := by have := h.le; unfold maxLen; omega
theorem rm1 {w w2 : World} {B size n cap : Nat} {A : Option Addr} {ys : List Value} (h : Appended w.drew w2 B size none A n cap ys) : Frm w w2 fun _ => False := ((Frm.refl w (fun _ => False)).drew).fresh h.2.1 (fun _ hj => (blk_none _ hj).elim)
theorem rm2 {w w2 w3 : World} {B size n cap n' cap' : Nat} {A A' : Option Addr} {ys zs : List Value} (h : Appended w.drew w2 B size none A n cap ys) (k : Appended w2 w3 B size A A' n' cap' zs) : Frm w w3 fun _ => False :=
  (rm1 h).fresh k.2.1 (fun j hj => (h.2.2 j hj).elim (fun hb => (blk_none _ hb).elim) id)
set_option maxRecDepth 100000 in
set_option maxHeartbeats 800000 in
theorem rmore_walk (b n m cap c : Nat) (A X : Option Addr) (xs ys : List Value) (w : World) (c1 : w.cell? ⟨b, 1, none⟩ = some (.slice A n cap)) (f1 : w.frozen? ⟨b, 1, none⟩ = false) (hlt : b < w.heap.size)
    (h : Sl w 0 1 A n cap xs) (hr : Rd w w.heap.size 1 X m ys) (h1 : ∀ u ∈ xs, u.oneCell' = true) (h2 : ∀ u ∈ ys, u.oneCell' = true) (hl : Fit n m) (hc : m ≤ c) :
    Calls Try.prog 47 #[.pointer (some ⟨b, 0, none⟩), .slice X m c] w fun e w' => e = .returned (.tuple #[]) ∧ MoreW b n m xs ys w w' := by
  have H := Lib.hid h
  have HR := Lib.hid hr
  obtain ⟨i33, hi, hz0, hz1, hz2⟩ := info_parts info33
  have hmin := hl.min
  obtain ⟨s1, s2, s3⟩ := hl.small
  obtain ⟨r1, r2, r3, r4⟩ := hl.room
  clear h hr hl
  go_enter Try.func47, Try.ntmps47
  go_wp2_with fail
  go_region_law (first
    | (refine step_append_sl _ rfl (.const (.slice none 0 0)) (.tmp 18) 28 rfl w.heap.size 33 i33 _ 1 8 Try.underlying28 hi hz0 hz1 hz2 rfl (by decide) none 0 0 [] rfl (Sl.nil _ _ _) _ _ _ xs rfl (H.out.drew.rd) h1 r1 r2 (by simp) ?_; intro A' cap' w2 hap; rw [Nat.zero_add, List.nil_append] at hap; replace hap := Lib.hid hap)
    | (refine step_append_sl _ rfl (.tmp 19) (.tmp 22) 28 rfl w.heap.size 33 i33 _ 1 8 Try.underlying28 hi hz0 hz1 hz2 rfl (by decide) _ _ _ _ rfl hap.out.1 _ _ _ ys rfl (HR.out.new_ (rm1 hap.out)) h2 r3 r4 (rm1 hap.out).size ?_; intro A2' cap2' w3 hap2; have F := Lib.hid (rm2 hap.out hap2); have c3 := F.out.cell c1 id; have f3 := (F.out.frozen (p := ⟨b, 1, none⟩) hlt id).trans f1; replace hap2 := Lib.hid hap2))
  go_end0
  refine ⟨rfl, _, _, _, rfl, F.out, ?_⟩
  exact hap2.out.1
theorem rmore_any (b cap now most : Nat) (A : Option Addr) (ds l : List Nat) (X : Option Addr) (c : Nat) (w : World) (h : Clk w b A cap now most ds) (hr : Rd w w.heap.size 1 X l.length (us l)) (hl : Fit ds.length l.length) (hu : ∀ d ∈ l, U d) (hc : l.length ≤ c) :
    Calls Try.prog 47 #[.pointer (some ⟨b, 0, none⟩), .slice X l.length c] w fun e w' => e = .returned (.tuple #[]) ∧ Mored b now most (ds ++ l) w w' :=
  (rmore_walk b ds.length l.length cap c A X (us ds) _ w h.c1 (h.free 1) h.lt h.sl hr (us_one ds) (us_one _) hl hc).mono fun _ _ ⟨he, hm⟩ => ⟨he, mored_of h hu hm⟩
theorem rnew_any (most : Nat) (l : List Nat) (X : Option Addr) (c : Nat) (hm : U most) (w : World) (hr : Rd w w.heap.size 1 X l.length (us l)) (hl : Fit 0 l.length) (hu : ∀ d ∈ l, U d) (hc : l.length ≤ c) :
    Calls Try.prog 44 #[.slice X l.length c, .int .u64 most] w fun e w' => ∃ v, e = .returned v ∧ Newed most l w w' v := by
  have K := Lib.hid (clk_new w 118 most hm)
  have R := Lib.hid (hr.new_ ((Frm.refl w _).alloc (.cells #[.int .u64 0, .slice none 0 0, .int .u64 most] 118)))
  clear hr
  go_enter Try.func44, Try.ntmps44
  go_wp2_with (go_at_call 47; refine (rmore_any _ _ _ _ _ _ _ _ _ _ K.out R.out hl hu hc).mono ?_; rintro e w' ⟨rfl, hmo⟩; have M := Lib.hid hmo; clear hmo)
  go_ret
  exact ⟨_, rfl, newed_of ((Frm.refl w _).alloc _) (Nat.le_refl _) M.out⟩
end Go.Proofs.Ytaenclbbiodhfaa
