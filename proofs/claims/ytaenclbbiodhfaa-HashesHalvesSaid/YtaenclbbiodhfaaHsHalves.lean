import Derived.Test.YtaenclbbiodhfaaHsC
namespace Go.Proofs.Ytaenclbbiodhfaa.Halves
open Go.RowKit Go.Proofs.Ytaenclbbiodhfaa
set_option maxRecDepth 100000 in
set_option maxHeartbeats 1000000 in
theorem walk (a b : Nat) (ha : (a : Int) ≤ 4294967295) (hb : (b : Int) ≤ 4294967295) (w : World) : Calls Try.prog 11 #[.int .u32 a, .int .u32 b] w fun e w' => e = .returned (.bool true) ∧ w = w' := by
  go_enter Try.func11, Try.ntmps11
  go_wp2_with fail
  go_loop [5, 6, 7] (fun i _ _ => ∃ nb : Nat, i = .int .i64 nb ∧ 2 ≤ nb ∧ nb ≤ 8) (fun i _ _ => 9 - (intOf i).toNat)
  case atStart => exact ⟨2, rfl, by omega, by omega⟩
  case round =>
    obtain ⟨nb, rfl, h2, h8⟩ := hrel
    have hlt := hs_lt a nb h2 h8
    have hs256 := sz_le (nb : Int)
    obtain ⟨X, hX⟩ : ∃ X, hs a nb = X := ⟨_, rfl⟩
    obtain ⟨s, hs'⟩ : ∃ s, sz (nb : Int) = s := ⟨_, rfl⟩
    rw [hX, hs'] at hlt
    have HX := Lib.hid hX
    have HS := Lib.hid hs'
    have i0 : (0 : Int) ≤ (X : Int) := by omega
    have i1 : (X : Int) < (s : Int) := by omega
    have n2 : (2 : Int) ≤ (nb : Int) := by omega
    have n8 : (nb : Int) ≤ 8 := by omega
    by_cases he : nb = 8
    · have e8 : ((nb : Int) == 8) = true := by simp; omega
      clear hX hs' hlt he hs256
      go_wp2_with (first
        | (go_at_call 49; refine (hash_nb a nb ha h2 h8 _).mono ?_; rw [HX.out]; rintro e w' ⟨rfl, rfl⟩)
        | (go_at_call 50; refine (size_nb nb _).mono ?_; rw [HS.out]; rintro e w' ⟨rfl, rfl⟩)
        | (go_at_call 51; refine (hlives_any _).mono ?_; rintro e w' ⟨rfl, rfl⟩))
      go_ret
      exact ⟨rfl, rfl⟩
    · have e8 : ((nb : Int) == 8) = false := by simp; omega
      have hyh := hs_half a nb (by omega)
      have hbh := hs_half b nb (by omega)
      have hyl := hs_lt a (nb + 1) (by omega) (by omega)
      have hyl2 := sz_le ((nb + 1 : Nat) : Int)
      obtain ⟨Y, hY⟩ : ∃ Y, hs a (nb + 1) = Y := ⟨_, rfl⟩
      obtain ⟨XB, hXB⟩ : ∃ XB, hs b nb = XB := ⟨_, rfl⟩
      obtain ⟨YB, hYB⟩ : ∃ YB, hs b (nb + 1) = YB := ⟨_, rfl⟩
      rw [hY, hX] at hyh
      rw [hYB, hXB] at hbh
      rw [hY] at hyl
      have HY := Lib.hid hY
      have HXB := Lib.hid hXB
      have HYB := Lib.hid hYB
      have hyi : (Y : Int) / 2 = (X : Int) := by omega
      have y0 : (0 : Int) ≤ (Y : Int) := by omega
      have y1 : (Y : Int) ≤ 256 := by omega
      have h9 : nb < 8 := by omega
      by_cases hxb : XB = X
      · subst hxb
        clear hX hs' hlt he hs256 hY hXB hYB hyh hbh hyl hyl2
        go_wp2_with (first
          | (go_at_call 49; first
            | ((with_reducible refine (hash_nb a nb ha h2 h8 _).mono ?_); rw [HX.out]; rintro e w' ⟨rfl, rfl⟩)
            | ((with_reducible refine (hash_nb1 a nb ha h2 h9 _).mono ?_); rw [HY.out]; rintro e w' ⟨rfl, rfl⟩)
            | ((with_reducible refine (hash_nb b nb hb h2 h8 _).mono ?_); rw [HXB.out]; rintro e w' ⟨rfl, rfl⟩)
            | ((with_reducible refine (hash_nb1 b nb hb h2 h9 _).mono ?_); rw [HYB.out]; rintro e w' ⟨rfl, rfl⟩))
          | (go_at_call 50; refine (size_nb nb _).mono ?_; rw [HS.out]; rintro e w' ⟨rfl, rfl⟩))
        go_round
        case rel => exact ⟨nb + 1, by go_num, by omega, by omega⟩
        case measure => simp [intOf]; omega
      · have b1 : ((XB : Int) != (X : Int)) = true := by simp; omega
        have b2 : ((YB : Int) == (Y : Int)) = false := by simp; omega
        clear hX hs' hlt he hs256 hY hXB hYB hyh hbh hyl hyl2 hxb
        go_wp2_with (first
          | (go_at_call 49; first
            | ((with_reducible refine (hash_nb a nb ha h2 h8 _).mono ?_); rw [HX.out]; rintro e w' ⟨rfl, rfl⟩)
            | ((with_reducible refine (hash_nb1 a nb ha h2 h9 _).mono ?_); rw [HY.out]; rintro e w' ⟨rfl, rfl⟩)
            | ((with_reducible refine (hash_nb b nb hb h2 h8 _).mono ?_); rw [HXB.out]; rintro e w' ⟨rfl, rfl⟩)
            | ((with_reducible refine (hash_nb1 b nb hb h2 h9 _).mono ?_); rw [HYB.out]; rintro e w' ⟨rfl, rfl⟩))
          | (go_at_call 50; refine (size_nb nb _).mono ?_; rw [HS.out]; rintro e w' ⟨rfl, rfl⟩))
        go_round
        case rel => exact ⟨nb + 1, by go_num, by omega, by omega⟩
        case measure => simp [intOf]; omega
theorem walkF (a b : Nat) (ha : (a : Int) ≤ 4294967295) (hb : (b : Int) ≤ 4294967295) (w : World) : Calls Try.prog 11 #[.int .u32 a, .int .u32 b] w fun e w' => e = .returned (.bool true) ∧ Frm w w' fun _ => False :=
  (walk a b ha hb w).mono fun _ _ ⟨he, hw⟩ => ⟨he, hw ▸ Frm.refl _ _⟩
end Go.Proofs.Ytaenclbbiodhfaa.Halves
