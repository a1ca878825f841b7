import Derived.Test.YtmjpaaippilioaaDoorMkE
namespace Go.Proofs.YtmjpaaippilioaaDoor
open Go.RowKit

def dg10 : ByteArray := ⟨#[48, 49, 50, 51, 52, 53, 54, 55, 56, 57]⟩
theorem dg10_at : ∀ i : Nat, i < 10 → dg10.extract i (i + 1) = ⟨#[UInt8.ofNat (48 + i)]⟩ := by decide +kernel
theorem dg10_cut (i : Nat) (hi : i < 10) (w : World) : (Instr.slice 9 (.string ⟨#[48, 49, 50, 51, 52, 53, 54, 55, 56, 57]⟩) (some (.int .u64 (i : Int))) (some (.int .u64 ((i : Int) + 1))) none).run Tryd.prog w = .ok (.string ⟨#[UInt8.ofNat (48 + i)]⟩) w := by
  have h := run_slice_string w 9 dg10 .u64 .u64 (i : Int) ((i : Int) + 1) Tryd.underlying9 (by omega) (by omega) (by rw [show dg10.size = 10 from rfl]; omega)
  rw [show ((i : Int)).toNat = i by omega, show ((i : Int) + 1).toNat = i + 1 by omega, dg10_at i hi] at h
  exact h
theorem ba_cons (x : UInt8) (l : List UInt8) : (⟨#[x]⟩ : ByteArray) ++ (⟨l.toArray⟩ : ByteArray) = ⟨(x :: l).toArray⟩ := by
  apply ByteArray.ext
  rw [ByteArray.data_append]
  simp
theorem dec_step (u x : Nat) (t : List UInt8) (h : Lib.decDigits u = Lib.decDigits x ++ t) (hx : ¬ x < 10) : Lib.decDigits u = Lib.decDigits (x / 10) ++ (UInt8.ofNat (48 + x % 10) :: t) := by
  rw [h, Lib.decDigits, dif_neg hx]
  simp
set_option maxRecDepth 100000 in
set_option maxHeartbeats 1000000 in
theorem digits_any (u : Nat) (w : World) (hu : (u : Int) ≤ 18446744073709551615) :
    Calls Tryd.prog 57 #[.int .u64 u] w fun e w' => e = .returned (.string ⟨(Lib.decDigits u).toArray⟩) ∧ w = w' := by
  have HU := Lib.hid hu
  clear hu
  go_enter Tryd.func57, Tryd.ntmps57
  go_wp2_with fail
  go_loop [0, 3] (fun n s => ∃ (x : Nat) (t : List UInt8), n = .int .u64 x ∧ s = .string ⟨t.toArray⟩ ∧ x ≤ u ∧ t.length ≤ 20 ∧ Lib.decDigits u = Lib.decDigits x ++ t) (fun n _ => (intOf n).toNat)
  case atStart => exact ⟨u, [], rfl, rfl, Nat.le_refl _, by simp, by simp⟩
  case round =>
    obtain ⟨x, t, rfl, rfl, hx, htl, he⟩ := hrel
    have x0 : (0 : Int) ≤ (x : Int) := by omega
    have x1 : (x : Int) ≤ 18446744073709551615 := by have := HU.out; omega
    obtain ⟨y, hy⟩ : ∃ y, x % 10 = y := ⟨_, rfl⟩
    have y0 : (x : Int) % 10 = (y : Int) := by omega
    have hy10 : y < 10 := by omega
    have hcut := dg10_cut y hy10
    obtain ⟨c, hc⟩ : ∃ c, UInt8.ofNat (48 + y) = c := ⟨_, rfl⟩
    rw [hc] at hcut
    have hsz : ¬ (9223372036854775807 < (⟨#[c]⟩ : ByteArray).size + (⟨t.toArray⟩ : ByteArray).size) := by
      simp [ByteArray.size]; omega
    have happ := ba_cons (c) t
    have hcc : ∀ W, (Op.stringOp .add ⟨#[c]⟩ ⟨t.toArray⟩).run Tryd.prog W = .ok (.string ⟨(c :: t).toArray⟩) W := fun W => by
      rw [run_string_add_sum W _ _ (by omega), happ]
    have ht20 : t.length + 1 ≤ (Lib.decDigits u).length := by
      rw [he, List.length_append]
      have : 0 < (Lib.decDigits x).length := by rw [Lib.decDigits]; split <;> simp
      omega
    have hd20 := dec_len u (by have := HU.out; omega)
    have HE := Lib.hid he
    have HC := Lib.hid hc
    have HY := Lib.hid hy
    have HX := Lib.hid hx
    have y1 : (0 : Int) ≤ (y : Int) := by omega
    have y2 : (y : Int) < 10 := by omega
    clear he hy hy10 hx hc
    by_cases h10 : (x : Int) / 10 = 0
    · clear ht20 hd20 htl
      go_wp2_with fail
      go_ret
      refine ⟨?_, rfl⟩
      have hx10 : x < 10 := by omega
      have : x % 10 = x := Nat.mod_eq_of_lt hx10
      rw [HE.out, Lib.decDigits, dif_pos hx10, ← this, HY.out, HC.out]
      rfl
    · have h11 : ((x : Int) / 10 == 0) = false := by simp; omega
      have HT := Lib.hid ht20
      have HD := Lib.hid hd20
      clear ht20 hd20 htl
      go_wp2_with fail
      go_round
      case rel => exact ⟨x / 10, c :: t, by go_num, rfl, by have := HX.out; omega, by have := HT.out; have := HD.out; simp only [List.length_cons]; omega, by rw [← HC.out, ← HY.out]; exact dec_step u x t HE.out (by omega)⟩
      case measure => simp [intOf]; omega
/-- Names, each behind a plus. -/
def plusL (l : List ByteArray) : List UInt8 := (l.map fun x => 43 :: bytesOf' x).flatten
theorem plusL_app (l r : List ByteArray) : plusL (l ++ r) = plusL l ++ plusL r := by simp [plusL]
theorem plusL_one (x : ByteArray) : plusL [x] = 43 :: bytesOf' x := by simp [plusL]
theorem plusL_nil {l : List ByteArray} (h : plusL l = []) : l = [] := by
  cases l with
  | nil => rfl
  | cons x r => simp [plusL] at h
theorem textB_plus (l : List ByteArray) (h : l ≠ []) : textB l = ⟨((plusL l).drop 1).toArray⟩ := by
  unfold textB
  rw [if_neg h]
  cases l with
  | nil => exact absurd rfl h
  | cons x r =>
    rw [List.map_cons, Lib.join_cons, Lib.joinTail]
    simp [plusL, List.map_map, Function.comp_def]
theorem ba_app (a b : List UInt8) : (⟨a.toArray⟩ : ByteArray) ++ (⟨b.toArray⟩ : ByteArray) = ⟨(a ++ b).toArray⟩ := by
  apply ByteArray.ext
  rw [ByteArray.data_append]
  simp
theorem ba_bytes (x : ByteArray) : x = ⟨(bytesOf' x).toArray⟩ := by
  unfold bytesOf'
  cases x
  simp
theorem plus_few (l : List ByteArray) (n b : Nat) (hn : l.length ≤ n) (h : ∀ x ∈ l, (bytesOf' x).length ≤ b) : (plusL l).length ≤ n * (b + 1) := by
  unfold plusL
  rw [List.length_flatten, List.map_map]
  refine Nat.le_trans ?_ (Nat.mul_le_mul_right (b + 1) hn)
  have hh : ∀ l : List ByteArray, (∀ x ∈ l, (bytesOf' x).length ≤ b) → (l.map (List.length ∘ fun x => 43 :: bytesOf' x)).sum ≤ l.length * (b + 1) := by
    intro l
    induction l with
    | nil => intro _; simp
    | cons x r ih =>
      intro h
      have h1 := ih (fun y hy => h y (List.mem_cons_of_mem _ hy))
      have h2 := h x List.mem_cons_self
      simp only [List.map_cons, List.sum_cons, List.length_cons, Nat.add_mul, Function.comp_apply]
      omega
  exact hh l h
theorem ext1 (y : UInt8) (r : List UInt8) : (⟨(y :: r).toArray⟩ : ByteArray).extract 1 (r.length + 1) = ⟨r.toArray⟩ := by
  apply ByteArray.ext
  rw [ByteArray.data_extract]
  simp
set_option maxRecDepth 100000 in
set_option maxHeartbeats 1000000 in
theorem names_any (u : Nat) (A : Option Addr) (n c : Nat) (xs : List ByteArray) (b : ByteArray) (w : World) (hu : (u : Int) ≤ 18446744073709551615) (hr : Rd w w.heap.size 1 A n (strs xs)) (hn : (n : Int) ≤ 4) (hx : ∀ x ∈ xs, (bytesOf' x).length ≤ 21) (hb : (bytesOf' b).length ≤ 21) :
    Calls Tryd.prog 58 #[.int .u64 u, .slice A n c, .string b] w fun e w' => e = .returned (.string (textB (sel (bt u) xs n ++ if bytesOf' b = [] then [] else [b]))) ∧ w = w' := by
  obtain ⟨hlen, hcells⟩ := Rd.strs hr
  have HL := Lib.hid hlen
  have HCE := Lib.hid hcells
  have HX := Lib.hid hx
  have HB := Lib.hid hb
  clear hr hlen hcells hx hb
  go_enter Tryd.func58, Tryd.ntmps58
  go_wp2_with fail
  go_loop [7, 8] (fun s i => ∃ (k : Nat) (l : List UInt8), i = .int .i64 k ∧ k ≤ n ∧ s = .string ⟨l.toArray⟩ ∧ l = plusL (sel (bt u) xs k)) (fun _ i => n - (intOf i).toNat)
  case atStart => exact ⟨0, [], rfl, Nat.zero_le _, rfl, rfl⟩
  case round =>
    obtain ⟨k, l, rfl, hk, rfl, he⟩ := hrel
    have HE := Lib.hid he
    have hl : l.length ≤ k * 22 := by rw [he]; exact plus_few _ k 21 (sel_le _ _ _) (fun x hx => HX.out x (sel_mem _ _ _ x hx))
    by_cases hlt : k < n
    · obtain ⟨g, off, rfl, hg, hcell⟩ := HCE.out (by omega)
      have hkl : k < xs.length := by have := HL.out; omega
      have q0 := hcell k hkl
      obtain ⟨x, hx⟩ : ∃ x, xs[k] = x := ⟨_, rfl⟩
      rw [hx, ba_bytes x] at q0
      obtain ⟨xl, hxl⟩ : ∃ xl, bytesOf' x = xl := ⟨_, rfl⟩
      have hx21 : xl.length ≤ 21 := by rw [← hxl, ← hx]; exact HX.out _ (List.getElem_mem hkl)
      rw [hxl] at q0
      have i0 : (0 : Int) ≤ (k : Int) := by omega
      have i1 : (k : Int) < (n : Int) := by omega
      have c1 : ∀ W, (Op.stringOp .add ⟨l.toArray⟩ ⟨#[43]⟩).run Tryd.prog W = .ok (.string ⟨(l ++ [43]).toArray⟩) W := fun W => by
        rw [run_string_add_sum W _ _ (by simp [ByteArray.size]; omega)]
        rw [show (⟨#[43]⟩ : ByteArray) = ⟨[43].toArray⟩ from rfl, ba_app]
      have c2 : ∀ W, (Op.stringOp .add ⟨(l ++ [43]).toArray⟩ ⟨xl.toArray⟩).run Tryd.prog W = .ok (.string ⟨(l ++ [43] ++ xl).toArray⟩) W := fun W => by
        rw [run_string_add_sum W _ _ (by simp [ByteArray.size]; omega), ba_app]
      have HXX := Lib.hid hx
      have HXL := Lib.hid hxl
      have hbt := fun V => bit_any u k hu (by omega) V
      clear hx hxl hcell hx21 hl he
      cases hb : bt u k with
      | true =>
        simp only [hb] at hbt
        have HBB := Lib.hid hb
        have HBK := Lib.hid hbt
        clear hb hbt
        go_wp2_with (go_at_call 54; refine (HBK.out _).mono ?_; rintro e w' ⟨rfl, rfl⟩)
        go_round
        case rel => exact ⟨k + 1, l ++ 43 :: xl, by go_num, by omega, rfl, by rw [sel_succ _ xs k hkl, HBB.out, if_pos rfl, plusL_app, HXX.out, plusL_one, HXL.out, HE.out]⟩
        case measure => simp [intOf]; omega
      | false =>
        simp only [hb] at hbt
        have HBB := Lib.hid hb
        have HBK := Lib.hid hbt
        clear hb hbt
        go_wp2_with (go_at_call 54; refine (HBK.out _).mono ?_; rintro e w' ⟨rfl, rfl⟩)
        go_round
        case rel => exact ⟨k + 1, l, by go_num, by omega, rfl, by rw [sel_succ _ xs k hkl, HBB.out, HE.out]; simp⟩
        case measure => simp [intOf]; omega
    · obtain rfl : k = n := by omega
      obtain ⟨bl, hbl⟩ : ∃ bl, bytesOf' b = bl := ⟨_, rfl⟩
      have hb21 : bl.length ≤ 21 := by rw [← hbl]; exact HB.out
      have hbb := ba_bytes b
      rw [hbl] at hbb
      subst hbb
      have HBL := Lib.hid hbl
      cases bl with
      | nil =>
        cases l with
        | nil =>
          clear he hl hbl hb21 hlt
          go_wp2_with fail
          go_ret
          rw [plusL_nil HE.out.symm]
          exact ⟨rfl, rfl⟩
        | cons y r =>
          clear he hl hbl hb21 hlt
          go_wp2_with fail
          go_ret
          have hne : sel (bt u) xs k ≠ [] := fun e => by have := HE.out; rw [e] at this; cases this
          rw [textB_plus _ hne, ← HE.out]
          exact ⟨congrArg (fun s => Ending.returned (Value.string s)) (ext1 y r), rfl⟩
      | cons z bl =>
        have hp : plusL (sel (bt u) xs k ++ [⟨(z :: bl).toArray⟩]) = l ++ 43 :: z :: bl := by rw [plusL_app, plusL_one, HBL.out, ← he]
        have hne : sel (bt u) xs k ++ [(⟨(z :: bl).toArray⟩ : ByteArray)] ≠ [] := by simp
        have hT := textB_plus _ hne
        rw [hp] at hT
        have HT := Lib.hid hT
        have HNE : Hid (¬ (bytesOf' (⟨(z :: bl).toArray⟩ : ByteArray) = [])) := by show ¬ _; rw [HBL.out]; exact List.cons_ne_nil _ _
        have c1 : ∀ W, (Op.stringOp .add ⟨l.toArray⟩ ⟨#[43]⟩).run Tryd.prog W = .ok (.string ⟨(l ++ [43]).toArray⟩) W := fun W => by
          rw [run_string_add_sum W _ _ (by simp [ByteArray.size]; omega)]
          rw [show (⟨#[43]⟩ : ByteArray) = ⟨[43].toArray⟩ from rfl, ba_app]
        have c2 : ∀ W, (Op.stringOp .add ⟨(l ++ [43]).toArray⟩ ⟨(z :: bl).toArray⟩).run Tryd.prog W = .ok (.string ⟨(l ++ [43] ++ z :: bl).toArray⟩) W := fun W => by
          rw [run_string_add_sum W _ _ (by simp [ByteArray.size] at hb21 ⊢; omega), ba_app]
        have hem : (l ++ 43 :: z :: bl).isEmpty = false := by cases l <;> rfl
        have hX : ∃ y r, l ++ 43 :: z :: bl = y :: r ∧ r.length = l.length + (bl.length + 1) := by
          cases l with
          | nil => exact ⟨43, z :: bl, rfl, by simp⟩
          | cons y r => exact ⟨y, r ++ 43 :: z :: bl, rfl, by simp; omega⟩
        have HXX := Lib.hid hX
        clear he hl hbl hlt hp hne hT hb21 hX
        go_wp2_with fail
        go_ret
        rw [HT.out]
        refine ⟨?_, rfl⟩
        obtain ⟨y, r, h1, h2⟩ := HXX.out
        have h := ext1 y r
        rw [h2] at h
        rw [h1, List.drop_succ_cons, List.drop_zero]
        exact congrArg (fun s => Ending.returned (Value.string s)) h
end Go.Proofs.YtmjpaaippilioaaDoor
