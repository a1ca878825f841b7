import Derived.Test.YtmjpaaippilioaaDoorMkD
import Derived.Deep.RegionWith
import Derived.Laws.Concat
namespace Go.Proofs.YtmjpaaippilioaaDoor
open Go.RowKit

def mutexN : List ByteArray := [⟨#[108, 111, 99, 107, 101, 100]⟩, ⟨#[112, 97, 114, 107, 101, 100]⟩]
def rwN : List ByteArray := [⟨#[112, 97, 114, 107, 101, 100]⟩, ⟨#[119, 97, 105, 116, 115]⟩, ⟨#[117, 112, 103, 114]⟩, ⟨#[119, 114, 105, 116, 101, 114]⟩]
def onceN : List ByteArray := [⟨#[100, 111, 110, 101]⟩, ⟨#[112, 111, 105, 115, 111, 110]⟩, ⟨#[108, 111, 99, 107, 101, 100]⟩, ⟨#[112, 97, 114, 107, 101, 100]⟩]
/-- The variables lie as the program's text lays them. -/
structure Mk (w : World) : Prop where
  pow : Pow w
  t0 : Rd w w.heap.size 1 (some ⟨0, 0, none⟩) 2 (strs mutexN)
  t1 : Rd w w.heap.size 1 (some ⟨1, 0, none⟩) 4 (strs rwN)
  t2 : Rd w w.heap.size 1 (some ⟨2, 0, none⟩) 4 (strs onceN)
theorem Mk.new_ {w w' : World} (h : Mk w) (hf : Frm w w' fun _ => False) : Mk w' := ⟨h.pow.frm hf id, h.t0.new_ hf, h.t1.new_ hf, h.t2.new_ hf⟩
set_option maxRecDepth 100000 in
theorem cut85 (W : World) : (Instr.sliceAt 85 (.pointer (some ⟨0, 0, none⟩)) none none none).run Tryd.prog W = .ok (.slice (some ⟨0, 0, none⟩) 2 2) W := by
  rw [run_sliceAt_array_all W 85 ⟨0, 0, none⟩ (by kernel_rfl)]
  rw [show Tryd.prog.arrayLen 85 = 2 from by kernel_rfl]
  rfl
set_option maxRecDepth 100000 in
theorem cut88 (g : Nat) (W : World) : (Instr.sliceAt 88 (.pointer (some ⟨g, 0, none⟩)) none none none).run Tryd.prog W = .ok (.slice (some ⟨g, 0, none⟩) 4 4) W := by
  rw [run_sliceAt_array_all W 88 ⟨g, 0, none⟩ (by kernel_rfl)]
  rw [show Tryd.prog.arrayLen 88 = 4 from by kernel_rfl]
  rfl
theorem dec_len (u : Nat) (hu : u ≤ 18446744073709551615) : (Lib.decDigits u).length ≤ 20 := by
  rw [Lib.decDigits_length]
  by_cases h : 1 ≤ u
  · have := Lib.numDigits_eq u h (by omega); split at this <;> omega
  · obtain rfl : u = 0 := by omega
    decide +kernel
theorem join_le (l : List (List UInt8)) (s : List UInt8) : (Lib.join l s).length ≤ (l.map fun x => x.length + s.length).sum := by
  cases l with
  | nil => simp [Lib.join]
  | cons x r =>
    rw [Lib.join_cons, Lib.joinTail]
    simp only [List.length_append, List.length_flatten, List.map_map, List.map_cons, List.sum_cons]
    have : ∀ r : List (List UInt8), (r.map (List.length ∘ fun x => s ++ x)).sum = (r.map fun x => x.length + s.length).sum := by
      intro r
      congr 1
      refine List.map_congr_left fun y _ => ?_
      simp [Nat.add_comm]
    rw [this]; omega
theorem sum_le (l : List (List UInt8)) (f : List UInt8 → Nat) (b : Nat) (h : ∀ x ∈ l, f x ≤ b) : (l.map f).sum ≤ l.length * b := by
  induction l with
  | nil => simp
  | cons x r ih =>
    have := ih (fun y hy => h y (List.mem_cons_of_mem _ hy))
    have := h x List.mem_cons_self
    simp only [List.map_cons, List.sum_cons, List.length_cons, Nat.add_mul]; omega
theorem join_few (l : List ByteArray) (n b : Nat) (hn : l.length ≤ n) (h : ∀ x ∈ l, (bytesOf' x).length ≤ b) : (Lib.join (l.map bytesOf') [43]).length ≤ n * (b + 1) := by
  refine Nat.le_trans (join_le _ _) (Nat.le_trans (sum_le _ _ (b + 1) ?_) ?_)
  · intro x hx
    obtain ⟨y, hy, rfl⟩ := List.mem_map.1 hx
    have := h y hy
    simp only [List.length_cons, List.length_nil]; omega
  · rw [List.length_map]; exact Nat.mul_le_mul_right _ hn
theorem sel_mem {α : Type} (so : Nat → Bool) (xs : List α) (k : Nat) : ∀ x ∈ sel so xs k, x ∈ xs := by
  intro x hx
  unfold sel at hx
  obtain ⟨p, hp, rfl⟩ := List.mem_map.1 hx
  have h1 := (List.mem_filter.1 hp).1
  have h2 := List.mem_of_mem_take (i := k) (l := xs) (a := p.1) (by
    have := List.fst_mem_of_mem_zipIdx h1
    exact this)
  exact h2
theorem names_few (u : Nat) (xs ys : List ByteArray) (n : Nat) (hn : n ≤ 4) (hy : ys.length ≤ 1) (h1 : ∀ x ∈ xs, (bytesOf' x).length ≤ 21) (h2 : ∀ x ∈ ys, (bytesOf' x).length ≤ 21) : (Lib.join ((sel (bt u) xs n ++ ys).map bytesOf') [43]).length ≤ 140737488355328 := by
  refine Nat.le_trans (join_few _ 5 21 ?_ ?_) (by decide)
  · rw [List.length_append]; have := sel_le (bt u) xs n; omega
  · intro x hx
    rcases List.mem_append.1 hx with h | h
    · exact h1 x (sel_mem _ _ _ x h)
    · exact h2 x h
theorem rest_few (u nb : Nat) (hu : u ≤ 18446744073709551615) : (restL u nb).length ≤ 1 ∧ ∀ x ∈ restL u nb, (bytesOf' x).length ≤ 21 := by
  unfold restL
  split
  · exact ⟨by simp, fun x hx => by cases hx⟩
  · refine ⟨by simp, fun x hx => ?_⟩
    simp at hx
    subst hx
    have := dec_len (u / 2 ^ nb * 2 ^ nb) (by have := Nat.div_mul_le_self u (2 ^ nb); omega)
    show (Lib.decDigits _).toArray.toList.length ≤ 21
    simp; omega
theorem mutexN_few : ∀ x ∈ mutexN, (bytesOf' x).length ≤ 21 := by decide +kernel
theorem rwN_few : ∀ x ∈ rwN, (bytesOf' x).length ≤ 21 := by decide +kernel
theorem onceN_few : ∀ x ∈ onceN, (bytesOf' x).length ≤ 21 := by decide +kernel
set_option maxRecDepth 100000 in
set_option maxHeartbeats 1000000 in
theorem mutex_any (u : Nat) (w : World) (hu : (u : Int) ≤ 18446744073709551615) (hm : Mk w) :
    Calls Tryd.prog 21 #[.int .u64 u] w fun e w' => e = .returned (.string (textB (sel (bt u) mutexN 2 ++ restL u 2))) ∧ Frm w w' fun _ => False := by
  have hc := cut85
  have HM := Lib.hid hm
  have HR := Lib.hid (rest_any u 2 · hu (.inl rfl))
  clear hm
  go_enter Tryd.func21, Tryd.ntmps21
  go_wp2_with fail
  go_region_with (first
    | (go_at_call 56; refine (HR.out _ (HM.out.new_ (Frm.refl w _).drew).pow).mono ?_; rintro e w2 ⟨A, rfl, hrd, hf⟩; have RD := Lib.hid hrd; have F := Lib.hid (((Frm.refl w fun _ => False).drew).then_ hf); clear hrd hf)
    | (go_at_call 55; refine (named_any u (some ⟨0, 0, none⟩) A 2 2 (restL u 2).length (restL u 2).length mutexN (restL u 2) _ hu (HM.out.t0.new_ F.out) RD.out (by omega) (by have := (rest_few u 2 (by omega)).1; omega) (names_few u mutexN _ 2 (by omega) (rest_few u 2 (by omega)).1 mutexN_few (rest_few u 2 (by omega)).2)).mono ?_; rintro e w3 ⟨rfl, hf3⟩; replace F := Lib.hid (F.out.then_ hf3); clear hf3))
  all_goals
    go_wp2_with fail
    go_ret
    exact ⟨rfl, F.out⟩
set_option maxRecDepth 100000 in
set_option maxHeartbeats 1000000 in
theorem once_any (u : Nat) (w : World) (hu : (u : Int) ≤ 18446744073709551615) (hm : Mk w) :
    Calls Tryd.prog 25 #[.int .u64 u] w fun e w' => e = .returned (.string (textB (sel (bt u) onceN 4 ++ restL u 4))) ∧ Frm w w' fun _ => False := by
  have hc := cut88 2
  have HM := Lib.hid hm
  have HR := Lib.hid (rest_any u 4 · hu (.inr rfl))
  clear hm
  go_enter Tryd.func25, Tryd.ntmps25
  go_wp2_with fail
  go_region_with (first
    | (go_at_call 56; refine (HR.out _ (HM.out.new_ (Frm.refl w _).drew).pow).mono ?_; rintro e w2 ⟨A, rfl, hrd, hf⟩; have RD := Lib.hid hrd; have F := Lib.hid (((Frm.refl w fun _ => False).drew).then_ hf); clear hrd hf)
    | (go_at_call 55; refine (named_any u (some ⟨2, 0, none⟩) A 4 4 (restL u 4).length (restL u 4).length onceN (restL u 4) _ hu (HM.out.t2.new_ F.out) RD.out (by omega) (by have := (rest_few u 4 (by omega)).1; omega) (names_few u onceN _ 4 (by omega) (rest_few u 4 (by omega)).1 onceN_few (rest_few u 4 (by omega)).2)).mono ?_; rintro e w3 ⟨rfl, hf3⟩; replace F := Lib.hid (F.out.then_ hf3); clear hf3))
  all_goals
    go_wp2_with fail
    go_ret
    exact ⟨rfl, F.out⟩
/-- What is told of readers. -/
def readL (u : Nat) : List ByteArray := if u / 16 = 0 then [] else [⟨(114 :: Lib.decDigits (u / 16)).toArray⟩]
theorem read_few (u : Nat) (hu : u ≤ 18446744073709551615) : (readL u).length ≤ 1 ∧ ∀ x ∈ readL u, (bytesOf' x).length ≤ 21 := by
  unfold readL
  split
  · exact ⟨by simp, fun x hx => by cases hx⟩
  · refine ⟨by simp, fun x hx => ?_⟩
    simp at hx
    subst hx
    have := dec_len (u / 16) (by omega)
    show (114 :: Lib.decDigits _).toArray.toList.length ≤ 21
    simp; omega
theorem r_app (l : List UInt8) : (⟨#[114]⟩ : ByteArray) ++ (⟨l.toArray⟩ : ByteArray) = ⟨(114 :: l).toArray⟩ := by
  apply ByteArray.ext
  rw [ByteArray.data_append]
  simp
set_option maxRecDepth 100000 in
set_option maxHeartbeats 1000000 in
theorem rw_any (u : Nat) (w : World) (hu : (u : Int) ≤ 18446744073709551615) (hm : Mk w) :
    Calls Tryd.prog 23 #[.int .u64 u] w fun e w' => e = .returned (.string (textB (sel (bt u) rwN 4 ++ readL u))) ∧ Frm w w' fun _ => False := by
  have hc := cut88 1
  have HM := Lib.hid hm
  have HRD := Lib.hid (fun V => readers_any u hu V)
  obtain ⟨r, hr⟩ : ∃ r, u / 16 = r := ⟨_, rfl⟩
  have r0 : (0 : Int) ≤ (r : Int) := by omega
  have HR := Lib.hid hr
  have hU := fun V hp => uint_any r (by omega) V hp
  have HU := Lib.hid hU
  clear hm hr hU
  by_cases h0 : r = 0
  · subst h0
    have HL : Hid (readL u = []) := by show _ = _; unfold readL; rw [HR.out, if_pos rfl]
    go_enter Tryd.func23, Tryd.ntmps23
    go_wp2_with (first
      | (go_at_call 27; refine (HRD.out _).mono ?_; rw [HR.out]; rintro e w' ⟨rfl, rfl⟩)
      | (go_at_call 55; refine (named_any u (some ⟨1, 0, none⟩) none 4 4 0 0 rwN [] _ hu HM.out.t1 (Rd.nil _ _ _ _) (by omega) (by omega) (names_few u rwN _ 4 (by omega) (by simp) rwN_few (fun x hx => by cases hx))).mono ?_; rintro e w3 ⟨rfl, hf3⟩))
    go_ret
    rw [HL.out, List.append_nil]
    exact ⟨rfl, hf3⟩
  · have h1 : (0 : Int) < (r : Int) := by omega
    have HL : Hid (readL u = [⟨(114 :: Lib.decDigits r).toArray⟩]) := by show _ = _; unfold readL; rw [HR.out, if_neg h0]
    have hf := read_few u (by omega)
    rw [HL.out] at hf
    have hfew := names_few u rwN [⟨(114 :: Lib.decDigits r).toArray⟩] 4 (by omega) hf.1 rwN_few hf.2
    have HFW := Lib.hid hfew
    have hrap := r_app (Lib.decDigits r)
    have hsz : ¬ (9223372036854775807 < (⟨#[114]⟩ : ByteArray).size + (⟨(Lib.decDigits r).toArray⟩ : ByteArray).size) := by
      have := dec_len r (by have := HR.out; omega)
      simp [ByteArray.size]; omega
    have hcc : ∀ W, (Op.stringOp .add ⟨#[114]⟩ ⟨(Lib.decDigits r).toArray⟩).run Tryd.prog W = .ok (.string ⟨(114 :: Lib.decDigits r).toArray⟩) W := fun W => by
      rw [run_string_add_sum W _ _ (by omega), hrap]
    clear h0 hf hfew
    go_enter Tryd.func23, Tryd.ntmps23
    go_wp2_with (first
      | (go_at_call 27; refine (HRD.out _).mono ?_; rw [HR.out]; rintro e w' ⟨rfl, rfl⟩))
    go_region_with (first
      | (go_at_call 59; refine (HU.out _ (HM.out.new_ (Frm.refl w _).drew).pow).mono ?_; rintro e w2 ⟨rfl, hf⟩; have F := Lib.hid (((Frm.refl w fun _ => False).drew).then_ hf); clear hf)
      | (go_at_call 55; refine (named_any u (some ⟨1, 0, none⟩) _ 4 4 1 1 rwN [⟨(114 :: Lib.decDigits r).toArray⟩] _ hu ((HM.out.t1.new_ F.out).new_ ((Frm.refl _ _).alloc _)) (Rd.fresh_at _ 9 #[_] rfl rfl) (by omega) (by omega) HFW.out).mono ?_; rintro e w3 ⟨rfl, hf3⟩; replace F := Lib.hid (F.out.then_ (((Frm.refl _ _).alloc _).then_ hf3)); clear hf3))
    all_goals
      go_wp2_with fail
      go_ret
      rw [HL.out]
      exact ⟨rfl, F.out⟩
end Go.Proofs.YtmjpaaippilioaaDoor
