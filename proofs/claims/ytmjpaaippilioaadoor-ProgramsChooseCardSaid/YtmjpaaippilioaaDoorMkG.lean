import Derived.Test.YtmjpaaippilioaaDoorMkF
namespace Go.Proofs.YtmjpaaippilioaaDoor
open Go.RowKit

theorem dec_ne (u : Nat) : Lib.decDigits u ≠ [] := by rw [Lib.decDigits]; split <;> simp
theorem bytes_mk (l : List UInt8) : bytesOf' (⟨l.toArray⟩ : ByteArray) = l := by simp [bytesOf']
def behindL (b : ByteArray) : List ByteArray := if bytesOf' b = [] then [] else [b]
theorem names_b (u : Nat) (A : Option Addr) (n c : Nat) (xs : List ByteArray) (b : ByteArray) (w : World) (hu : (u : Int) ≤ 18446744073709551615) (hr : Rd w w.heap.size 1 A n (strs xs)) (hn : (n : Int) ≤ 4) (hx : ∀ x ∈ xs, (bytesOf' x).length ≤ 21) (hb : (bytesOf' b).length ≤ 21) :
    Calls Tryd.prog 58 #[.int .u64 u, .slice A n c, .string b] w fun e w' => e = .returned (.string (textB (sel (bt u) xs n ++ behindL b))) ∧ w = w' := names_any u A n c xs b w hu hr hn hx hb
theorem rest_is (u nb : Nat) (h : ¬ u / 2 ^ nb = 0) : restL u nb = behindL ⟨(Lib.decDigits (u / 2 ^ nb * 2 ^ nb)).toArray⟩ := by
  unfold restL behindL
  rw [if_neg h, if_neg (by rw [bytes_mk]; exact dec_ne _)]
theorem rest_no (u nb : Nat) (h : u / 2 ^ nb = 0) : restL u nb = behindL ⟨#[]⟩ := by
  unfold restL behindL
  rw [if_pos h]; rfl
set_option maxRecDepth 100000 in
set_option maxHeartbeats 1000000 in
theorem rmutex_any (u : Nat) (w : World) (hu : (u : Int) ≤ 18446744073709551615) :
    Calls Tryd.prog 22 #[.int .u64 u] w fun e w' => e = .returned (.string (textB (sel (bt u) mutexN 2 ++ restL u 2))) ∧ Frm w w' fun _ => False := by
  have u0 : (0 : Int) ≤ (u : Int) := by omega
  obtain ⟨x, hx⟩ : ∃ x : Nat, u / 2 ^ 2 = x := ⟨_, rfl⟩
  have x1 : (u : Int) / 4 = (x : Int) := by omega
  have x3 : (u : Int) - (u : Int) % 4 = ((x * 4 : Nat) : Int) := by omega
  by_cases h0 : x = 0
  · have hr := rest_no u 2 (by rw [hx, h0])
    have HN := Lib.hid (fun (V : World) A hA => names_b u A 2 2 mutexN ⟨#[]⟩ V hu hA (by omega) mutexN_few (by decide))
    have HR := Lib.hid hr
    have x2 : (u : Int) / 4 = 0 := by omega
    clear hr hx x1 h0 x3
    go_enter Tryd.func22, Tryd.ntmps22
    go_wp2_with (go_at_call 58; refine (HN.out _ _ (Rd.fresh_at _ 9 #[_, _] rfl rfl)).mono ?_; rintro e w' ⟨rfl, rfl⟩)
    go_ret
    rw [HR.out]
    exact ⟨rfl, (Frm.refl _ _).alloc _⟩
  · have hr := rest_is u 2 (by rw [hx]; exact h0)
    rw [hx, show (2 : Nat) ^ 2 = 4 from rfl] at hr
    have hd : (bytesOf' (⟨(Lib.decDigits (x * 4)).toArray⟩ : ByteArray)).length ≤ 21 := by rw [bytes_mk]; have := dec_len (x * 4) (by omega); omega
    have HN := Lib.hid (fun (V : World) A hA => names_b u A 2 2 mutexN ⟨(Lib.decDigits (x * 4)).toArray⟩ V hu hA (by omega) mutexN_few hd)
    have hD := fun V => digits_any (x * 4) V (by omega)
    have HD := Lib.hid hD
    have HR := Lib.hid hr
    have x2 : (0 : Int) < (u : Int) / 4 := by omega
    have x5 : (u : Int) % 4 ≤ (u : Int) := by omega
    clear hr hx x1 h0 hd hD
    go_enter Tryd.func22, Tryd.ntmps22
    go_wp2_with (first
      | (go_at_call 57; refine (HD.out _).mono ?_; rintro e w' ⟨rfl, rfl⟩)
      | (go_at_call 58; refine (HN.out _ _ (Rd.fresh_at _ 9 #[_, _] rfl rfl)).mono ?_; rintro e w' ⟨rfl, rfl⟩))
    go_ret
    rw [HR.out]
    exact ⟨rfl, (Frm.refl _ _).alloc _⟩
set_option maxRecDepth 100000 in
set_option maxHeartbeats 1000000 in
theorem ronce_any (u : Nat) (w : World) (hu : (u : Int) ≤ 18446744073709551615) :
    Calls Tryd.prog 26 #[.int .u64 u] w fun e w' => e = .returned (.string (textB (sel (bt u) onceN 4 ++ restL u 4))) ∧ Frm w w' fun _ => False := by
  have u0 : (0 : Int) ≤ (u : Int) := by omega
  obtain ⟨x, hx⟩ : ∃ x : Nat, u / 2 ^ 4 = x := ⟨_, rfl⟩
  have x1 : (u : Int) / 16 = (x : Int) := by omega
  have x3 : (u : Int) - (u : Int) % 16 = ((x * 16 : Nat) : Int) := by omega
  by_cases h0 : x = 0
  · have hr := rest_no u 4 (by rw [hx, h0])
    have HN := Lib.hid (fun (V : World) A hA => names_b u A 4 4 onceN ⟨#[]⟩ V hu hA (by omega) onceN_few (by decide))
    have HR := Lib.hid hr
    have x2 : (u : Int) / 16 = 0 := by omega
    clear hr hx x1 h0 x3
    go_enter Tryd.func26, Tryd.ntmps26
    go_wp2_with (go_at_call 58; refine (HN.out _ _ (Rd.fresh_at _ 9 #[_, _, _, _] rfl rfl)).mono ?_; rintro e w' ⟨rfl, rfl⟩)
    go_ret
    rw [HR.out]
    exact ⟨rfl, (Frm.refl _ _).alloc _⟩
  · have hr := rest_is u 4 (by rw [hx]; exact h0)
    rw [hx, show (2 : Nat) ^ 4 = 16 from rfl] at hr
    have hd : (bytesOf' (⟨(Lib.decDigits (x * 16)).toArray⟩ : ByteArray)).length ≤ 21 := by rw [bytes_mk]; have := dec_len (x * 16) (by omega); omega
    have HN := Lib.hid (fun (V : World) A hA => names_b u A 4 4 onceN ⟨(Lib.decDigits (x * 16)).toArray⟩ V hu hA (by omega) onceN_few hd)
    have hD := fun V => digits_any (x * 16) V (by omega)
    have HD := Lib.hid hD
    have HR := Lib.hid hr
    have x2 : (0 : Int) < (u : Int) / 16 := by omega
    have x5 : (u : Int) % 16 ≤ (u : Int) := by omega
    clear hr hx x1 h0 hd hD
    go_enter Tryd.func26, Tryd.ntmps26
    go_wp2_with (first
      | (go_at_call 57; refine (HD.out _).mono ?_; rintro e w' ⟨rfl, rfl⟩)
      | (go_at_call 58; refine (HN.out _ _ (Rd.fresh_at _ 9 #[_, _, _, _] rfl rfl)).mono ?_; rintro e w' ⟨rfl, rfl⟩))
    go_ret
    rw [HR.out]
    exact ⟨rfl, (Frm.refl _ _).alloc _⟩
theorem read_is (u : Nat) (h : ¬ u / 16 = 0) : readL u = behindL ⟨(114 :: Lib.decDigits (u / 16)).toArray⟩ := by
  unfold readL behindL
  rw [if_neg h, if_neg (by rw [bytes_mk]; simp)]
theorem read_no (u : Nat) (h : u / 16 = 0) : readL u = behindL ⟨#[]⟩ := by
  unfold readL behindL
  rw [if_pos h]; rfl
set_option maxRecDepth 100000 in
set_option maxHeartbeats 1000000 in
theorem rrw_any (u : Nat) (w : World) (hu : (u : Int) ≤ 18446744073709551615) :
    Calls Tryd.prog 24 #[.int .u64 u] w fun e w' => e = .returned (.string (textB (sel (bt u) rwN 4 ++ readL u))) ∧ Frm w w' fun _ => False := by
  have u0 : (0 : Int) ≤ (u : Int) := by omega
  obtain ⟨x, hx⟩ : ∃ x : Nat, u / 16 = x := ⟨_, rfl⟩
  have x1 : (u : Int) / 16 = (x : Int) := by omega
  by_cases h0 : x = 0
  · have hr := read_no u (by rw [hx, h0])
    have HN := Lib.hid (fun (V : World) A hA => names_b u A 4 4 rwN ⟨#[]⟩ V hu hA (by omega) rwN_few (by decide))
    have HR := Lib.hid hr
    have x2 : (u : Int) / 16 = 0 := by omega
    clear hr hx x1 h0
    go_enter Tryd.func24, Tryd.ntmps24
    go_wp2_with (go_at_call 58; refine (HN.out _ _ (Rd.fresh_at _ 9 #[_, _, _, _] rfl rfl)).mono ?_; rintro e w' ⟨rfl, rfl⟩)
    go_ret
    rw [HR.out]
    exact ⟨rfl, (Frm.refl _ _).alloc _⟩
  · have hr := read_is u (by rw [hx]; exact h0)
    rw [hx] at hr
    have hd : (bytesOf' (⟨(114 :: Lib.decDigits x).toArray⟩ : ByteArray)).length ≤ 21 := by rw [bytes_mk]; have := dec_len x (by omega); simp only [List.length_cons]; omega
    have HN := Lib.hid (fun (V : World) A hA => names_b u A 4 4 rwN ⟨(114 :: Lib.decDigits x).toArray⟩ V hu hA (by omega) rwN_few hd)
    have hD := fun V => digits_any x V (by omega)
    have HD := Lib.hid hD
    have HR := Lib.hid hr
    have x2 : (0 : Int) < (x : Int) := by omega
    have hrap := r_app (Lib.decDigits x)
    have hsz : ¬ (9223372036854775807 < (⟨#[114]⟩ : ByteArray).size + (⟨(Lib.decDigits x).toArray⟩ : ByteArray).size) := by
      have := dec_len x (by omega)
      simp [ByteArray.size]; omega
    have hcc : ∀ W, (Op.stringOp .add ⟨#[114]⟩ ⟨(Lib.decDigits x).toArray⟩).run Tryd.prog W = .ok (.string ⟨(114 :: Lib.decDigits x).toArray⟩) W := fun W => by
      rw [run_string_add_sum W _ _ (by omega), hrap]
    clear hr hx h0 hd hD
    go_enter Tryd.func24, Tryd.ntmps24
    go_wp2_with (first
      | (go_at_call 57; refine (HD.out _).mono ?_; rintro e w' ⟨rfl, rfl⟩)
      | (go_at_call 58; refine (HN.out _ _ (Rd.fresh_at _ 9 #[_, _, _, _] rfl rfl)).mono ?_; rintro e w' ⟨rfl, rfl⟩))
    go_ret
    rw [HR.out]
    exact ⟨rfl, (Frm.refl _ _).alloc _⟩
end Go.Proofs.YtmjpaaippilioaaDoor
