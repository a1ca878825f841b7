import Derived.Test.YtmjpaaippilioaaDoorMkC
import Derived.Lib.Join
import Derived.Deep.RegionLaw
namespace Go.Proofs.YtmjpaaippilioaaDoor
open Go.RowKit

/-- Of a list those of some places. -/
def sel {α : Type} (so : Nat → Bool) (xs : List α) (k : Nat) : List α := ((xs.take k).zipIdx.filter fun p => so p.2).map (·.1)
section
variable {α : Type}
theorem sel_zero (so : Nat → Bool) (xs : List α) : sel so xs 0 = [] := rfl
theorem sel_succ (so : Nat → Bool) (xs : List α) (k : Nat) (h : k < xs.length) : sel so xs (k + 1) = sel so xs k ++ if so k then [xs[k]] else [] := by
  unfold sel
  rw [List.take_succ_eq_append_getElem h, List.zipIdx_append, List.filter_append, List.map_append]
  congr 1
  have : (xs.take k).length = k := by rw [List.length_take]; omega
  simp [this, List.filter_cons]
  split <;> simp
theorem sel_le (so : Nat → Bool) (xs : List α) (k : Nat) : (sel so xs k).length ≤ k := by
  unfold sel
  rw [List.length_map]
  refine Nat.le_trans (List.length_filter_le _ _) ?_
  rw [List.length_zipIdx, List.length_take]
  omega
end
/-- Strings as cells. -/
def strs (xs : List ByteArray) : List Value := xs.map Value.string
theorem strs_len (xs : List ByteArray) : (strs xs).length = xs.length := List.length_map _
theorem strs_app (xs ys : List ByteArray) : strs (xs ++ ys) = strs xs ++ strs ys := List.map_append
theorem strs_one (xs : List ByteArray) : ∀ u ∈ strs xs, u.oneCell' = true := by
  intro u hu
  obtain ⟨s, _, rfl⟩ := List.mem_map.1 hu
  rfl
theorem info9 : (Tryd.prog.info? 9).map (fun i => (i.zero, i.size, i.bytes)) = some (some (.string ⟨#[]⟩), 1, 16) := by kernel_rfl
theorem Rd.strs {w : World} {B n : Nat} {A : Option Addr} {xs : List ByteArray} (h : Rd w B 1 A n (strs xs)) : n = xs.length ∧ (0 < n → ∃ g off, A = some ⟨g, off, none⟩ ∧ g < B ∧ ∀ i (hi : i < xs.length), w.cell? ⟨g, off + i, none⟩ = some (.string xs[i])) := by
  have hl := h.1
  rw [strs_len, Nat.mul_one] at hl
  refine ⟨hl.symm, fun hp => ?_⟩
  obtain ⟨g, off, e, hb, hc⟩ := h.2 (by rw [strs_len]; omega)
  exact ⟨g, off, e, hb, fun i hi => hc i _ (by unfold Go.Proofs.YtmjpaaippilioaaDoor.strs; rw [List.getElem?_map, List.getElem?_eq_getElem hi]; rfl)⟩
theorem Rd.fresh_at (w : World) (t : TypeId) (c : Array Value) {size n g : Nat} (hn : c.size = n * size) (hg : g = w.heap.size) : Rd (w.alloc (.cells c t)) (w.alloc (.cells c t)).heap.size size (some ⟨g, 0, none⟩) n c.toList := by subst hg; exact Rd.fresh w t c hn
def bytesOf' (s : ByteArray) : List UInt8 := s.data.toList
/-- Names, joined; none: "0". -/
def textB (l : List ByteArray) : ByteArray := if l = [] then ⟨#[48]⟩ else ⟨(Lib.join (l.map bytesOf') [43]).toArray⟩
theorem shr_bt (u k : Nat) (hu : u < 18446744073709551616) : bits .and .u64 ((u : Int) / (2 : Int) ^ k) 1 = if bt u k then 1 else 0 := by
  have h2 : (u : Int) / (2 : Int) ^ k = ((u / 2 ^ k : Nat) : Int) := by
    rw [Int.natCast_ediv]; congr 1
  have hle : u / 2 ^ k ≤ u := Nat.div_le_self _ _
  rw [h2, show (1 : Int) = ((1 : Nat) : Int) from rfl, bits_and_u64_nat _ 1 (by omega) (by omega), Nat.and_one_is_mod]
  unfold bt
  by_cases h : u / 2 ^ k % 2 = 1
  · simp [h]
  · have : u / 2 ^ k % 2 = 0 := by omega
    simp [this]
set_option maxRecDepth 100000 in
set_option maxHeartbeats 1000000 in
theorem named_any (u : Nat) (A X : Option Addr) (n c m cx : Nat) (xs ys : List ByteArray) (w : World) (hu : (u : Int) ≤ 18446744073709551615) (hr : Rd w w.heap.size 1 A n (strs xs)) (hy : Rd w w.heap.size 1 X m (strs ys)) (hn : (n : Int) ≤ 50) (hm : (m : Int) ≤ 50)
    (hl : (Lib.join ((sel (bt u) xs n ++ ys).map bytesOf') [43]).length ≤ 140737488355328) :
    Calls Tryd.prog 55 #[.int .u64 u, .slice A n c, .slice X m cx] w fun e w' => e = .returned (.string (textB (sel (bt u) xs n ++ ys))) ∧ Frm w w' fun _ => False := by
  obtain ⟨hlen, hcells⟩ := Rd.strs hr
  have HR := Lib.hid hr
  have HY := Lib.hid hy
  have HL := Lib.hid hlen
  have HCE := Lib.hid hcells
  have HJ := Lib.hid hl
  have HU := Lib.hid hu
  have u0 : (0 : Int) ≤ (u : Int) := by omega
  obtain ⟨i9, hi, hz0, hz1, hz2⟩ := info_parts info9
  clear hr hy hlen hcells hl
  go_enter Tryd.func55, Tryd.ntmps55
  go_wp2_with fail
  go_loopw [7, 8, 9, 12] (fun o _ _ i wr => ∃ (k : Nat) (Ao : Option Addr) (co l : Nat), i = .int .i64 k ∧ k ≤ n ∧ o = .slice Ao l co ∧ l ≤ k ∧ Sl wr w.heap.size 1 Ao l co (strs (sel (bt u) xs k)) ∧ Frm w wr fun _ => False) (fun _ _ _ i _ => n - (intOf i).toNat)
  case atStart => exact ⟨0, none, 0, 0, rfl, Nat.zero_le _, rfl, Nat.le_refl _, Sl.nil _ _ _, Frm.refl _ _⟩
  case round =>
    obtain ⟨k, Ao, co, l, rfl, hk, rfl, hlk, hS, hF⟩ := hrel
    have S := Lib.hid hS
    have F := Lib.hid hF
    clear hS hF
    by_cases hlt : k < n
    · obtain ⟨g, off, rfl, hg, hcell⟩ := HCE.out (by omega)
      have hkl : k < xs.length := by have := HL.out; omega
      have q0 := F.out.cell (hcell k hkl) id
      obtain ⟨x, hx⟩ : ∃ x, xs[k] = x := ⟨_, rfl⟩
      rw [hx] at q0
      have HX := Lib.hid hx
      have i0 : (0 : Int) ≤ (k : Int) := by omega
      have i1 : (k : Int) < (n : Int) := by omega
      have i2 : (k : Int) ≤ 50 := by omega
      clear hx hcell
      obtain ⟨h63, hby⟩ : l + 1 ≤ maxLen ∧ (l + 1) * 16 ≤ 140737488355328 := by unfold maxLen; omega
      have eb := shr_bt u k (by omega)
      cases hb : bt u k with
      | true =>
        rw [hb] at eb
        have e1 : (bits .and .u64 ((u : Int) / 2 ^ k) 1 == 1) = true := by rw [eb]; rfl
        have HB := Lib.hid hb
        clear eb hb
        go_wp2_with (first
          | (at_builtin; refine wpList_append_sl _ rfl (.tmp 22) (.tmp 24) 84 rfl w.heap.size 9 i9 _ 1 16 Tryd.underlying84 hi hz0 hz1 hz2 rfl (by decide) _ _ _ _ rfl (S.out.alloc _) _ 1 1 [.string x] rfl (Rd.fresh_at _ 9 #[.string x] rfl rfl) (by intro u hu; simp at hu; subst hu; rfl) h63 hby (Nat.le_trans F.out.size (by simp)) ?_; intro A' cap' w3 hap; replace hap := Lib.hid hap))
        go_roundw
        case rel =>
          obtain ⟨hs3, hf3, hA3⟩ := hap.out
          refine ⟨k + 1, A', cap', l + 1, by go_num, by omega, rfl, by omega, ?_, ?_⟩
          · rw [sel_succ _ xs k hkl, HB.out, strs_app, HX.out]; exact hs3
          · exact (F.out.then_ ((Frm.refl _ _).alloc _)).fresh hf3 (fun j hj => (S.out.ge hj).1)
        case measure => simp [intOf]; omega
      | false =>
        rw [hb] at eb
        have e1 : (bits .and .u64 ((u : Int) / 2 ^ k) 1 == 1) = false := by rw [eb]; rfl
        have HB := Lib.hid hb
        clear eb hb
        go_wp2_with fail
        go_roundw
        case rel => exact ⟨k + 1, Ao, co, l, by go_num, by omega, rfl, by omega, by rw [sel_succ _ xs k hkl, HB.out]; simpa using S.out, F.out⟩
        case measure => simp [intOf]; omega
    · obtain rfl : k = n := by omega
      obtain ⟨h63, hby⟩ : l + m ≤ maxLen ∧ (l + m) * 16 ≤ 140737488355328 := by unfold maxLen; omega
      have hll : (sel (bt u) xs k).length = l := by have := S.out.len; rw [strs_len] at this; omega
      have HLL := Lib.hid hll
      have hml := (Rd.strs HY.out).1
      have HML := Lib.hid hml
      clear hll hml
      by_cases h0 : l + m = 0
      · obtain ⟨rfl, rfl⟩ : l = 0 ∧ m = 0 := by omega
        clear h0
        go_wp2_with (first
          | (at_builtin; refine wpList_append_sl _ rfl (.tmp 27) (.tmp 28) 84 rfl w.heap.size 9 i9 _ 1 16 Tryd.underlying84 hi hz0 hz1 hz2 rfl (by decide) _ _ _ _ rfl S.out _ _ _ (strs ys) rfl (HY.out.new_ F.out) (strs_one _) h63 hby F.out.size ?_; intro A' cap' w3 hap; replace hap := Lib.hid hap))
        go_ret
        obtain ⟨hs3, hf3, hA3⟩ := hap.out
        refine ⟨?_, F.out.fresh hf3 (fun j hj => (S.out.ge hj).1)⟩
        rw [List.eq_nil_of_length_eq_zero HLL.out, List.eq_nil_of_length_eq_zero HML.out.symm]
        rfl
      · have h0' : ¬ ((l : Int) + (m : Int) = 0) := by omega
        have h1' : (((l : Int) + (m : Int)) == 0) = false := by simp; omega
        have h2' : ¬ (l = 0 ∧ m = 0) := by omega
        go_wp2_with (first
          | (at_builtin; refine wpList_append_sl _ rfl (.tmp 27) (.tmp 28) 84 rfl w.heap.size 9 i9 _ 1 16 Tryd.underlying84 hi hz0 hz1 hz2 rfl (by decide) _ _ _ _ rfl S.out _ _ _ (strs ys) rfl (HY.out.new_ F.out) (strs_one _) h63 hby F.out.size ?_; intro A' cap' w3 hap; replace hap := Lib.hid hap))
        obtain ⟨hs3, hf3, hA3⟩ := hap.out
        have hF3 := Lib.hid (F.out.fresh hf3 (fun j hj => (S.out.ge hj).1))
        have hle := hs3.le
        obtain ⟨g', off', rfl, _, hlt', hc', _⟩ := hs3.form (by omega)
        rw [← strs_app] at hc'
        have hlen : (sel (bt u) xs k ++ ys).length = l + m := by rw [List.length_append, HLL.out, ← HML.out]
        have hj := Tryd.strings_Join g' off' cap' (sel (bt u) xs k ++ ys) ⟨#[43]⟩ w3 (fun j y hy => hc' j _ (by unfold strs; rw [List.getElem?_map, hy]; rfl)) hlt' (by omega) (by omega) HJ.out
        rw [hlen] at hj
        have HLEN := Lib.hid hlen
        have HJJ := Lib.hid hj
        clear hs3 hf3 hA3 hle hlt' hc' hlen hj hap
        refine HJJ.out.mono ?_
        rintro e w4 ⟨rfl, hb4⟩
        have F4 := Lib.hid (hF3.out.then_ (S := fun _ => False) ⟨hb4.os, hb4.tape, hb4.output, hb4.size, fun j hj _ => hb4.block j hj⟩)
        clear hb4
        go_wp2_with fail
        go_ret
        refine ⟨?_, F4.out⟩
        have hne : sel (bt u) xs k ++ ys ≠ [] := fun e => by have := HLEN.out; rw [e] at this; simp at this; omega
        unfold textB
        rw [if_neg hne, List.map_append]
        rfl
/-- What is told of bits without names. -/
def restL (u nb : Nat) : List ByteArray := if u / 2 ^ nb = 0 then [] else [⟨(Lib.decDigits (u / 2 ^ nb * 2 ^ nb)).toArray⟩]
theorem shl_cut (u nb : Nat) (hu : u < 18446744073709551616) : u / 2 ^ nb * 2 ^ nb < 18446744073709551616 := Nat.lt_of_le_of_lt (Nat.div_mul_le_self _ _) hu
set_option maxRecDepth 100000 in
theorem rest_any (u nb : Nat) (w : World) (hu : (u : Int) ≤ 18446744073709551615) (hn : nb = 2 ∨ nb = 4) (hp : Pow w) :
    Calls Tryd.prog 56 #[.int .u64 u, .int .i64 nb] w fun e w' => ∃ A, e = .returned (.slice A (restL u nb).length (restL u nb).length) ∧ Rd w' w'.heap.size 1 A (restL u nb).length (strs (restL u nb)) ∧ Frm w w' fun _ => False := by
  have u0 : (0 : Int) ≤ (u : Int) := by omega
  have HP := Lib.hid hp
  clear hp
  rcases hn with rfl | rfl
  all_goals
    obtain ⟨x, hx⟩ : ∃ x : Nat, u / 2 ^ 2 = x := ⟨_, rfl⟩
    obtain ⟨y, hy⟩ : ∃ y : Nat, u / 2 ^ 4 = y := ⟨_, rfl⟩
    have x1 : (u : Int) / 4 = (x : Int) := by omega
    have y1 : (u : Int) / 16 = (y : Int) := by omega
    have x2 : (x : Int) * 4 ≤ 18446744073709551615 := by omega
    have y2 : (y : Int) * 16 ≤ 18446744073709551615 := by omega
    have HX := Lib.hid hx
    have HY := Lib.hid hy
    clear hx hy
  · by_cases h0 : x = 0
    · subst h0
      have HR : Hid (restL u 2 = []) := by show _ = _; unfold restL; rw [HX.out, if_pos rfl]
      go_enter Tryd.func56, Tryd.ntmps56
      go_wp2_with fail
      go_ret
      rw [HR.out]
      exact ⟨none, rfl, Rd.nil _ _ _ _, Frm.refl _ _⟩
    · have h1 : ¬ ((x : Int) * 4 = 0) := by omega
      have h2 : (((x : Int) * 4) == 0) = false := by simp; omega
      have h3 : ((x : Int) == 0) = false := by simp; omega
      have HR : Hid (restL u 2 = [⟨(Lib.decDigits (x * 4)).toArray⟩]) := by show _ = _; unfold restL; rw [HX.out, if_neg h0]
      have hU := uint_any (x * 4) (by omega) w HP.out
      rw [Int.natCast_mul] at hU
      have HU := Lib.hid hU
      clear hU h0
      go_enter Tryd.func56, Tryd.ntmps56
      go_wp2_with (go_at_call 59; refine HU.out.mono ?_; rintro e w2 ⟨rfl, hf2⟩)
      go_ret
      rw [HR.out]
      exact ⟨_, rfl, Rd.fresh_at _ 9 #[_] rfl rfl, hf2.alloc _⟩
  · by_cases h0 : y = 0
    · subst h0
      have HR : Hid (restL u 4 = []) := by show _ = _; unfold restL; rw [HY.out, if_pos rfl]
      go_enter Tryd.func56, Tryd.ntmps56
      go_wp2_with fail
      go_ret
      rw [HR.out]
      exact ⟨none, rfl, Rd.nil _ _ _ _, Frm.refl _ _⟩
    · have h1 : ¬ ((y : Int) * 16 = 0) := by omega
      have h2 : (((y : Int) * 16) == 0) = false := by simp; omega
      have h3 : ((y : Int) == 0) = false := by simp; omega
      have HR : Hid (restL u 4 = [⟨(Lib.decDigits (y * 16)).toArray⟩]) := by show _ = _; unfold restL; rw [HY.out, if_neg h0]
      have hU := uint_any (y * 16) (by omega) w HP.out
      rw [Int.natCast_mul] at hU
      have HU := Lib.hid hU
      clear hU h0
      go_enter Tryd.func56, Tryd.ntmps56
      go_wp2_with (go_at_call 59; refine HU.out.mono ?_; rintro e w2 ⟨rfl, hf2⟩)
      go_ret
      rw [HR.out]
      exact ⟨_, rfl, Rd.fresh_at _ 9 #[_] rfl rfl, hf2.alloc _⟩
end Go.Proofs.YtmjpaaippilioaaDoor
