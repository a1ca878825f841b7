import Derived.Test.YtajcijocjbakbaaTbR
namespace Go.Proofs.Ytajcijocjbakbaa
open Go.RowKit

/-! ### Void -/
/-- What no call made: nothing is there. -/
structure Zero (w : World) (P0 : Option Addr) : Prop where
  at_ : ∀ V, (Frm w V fun _ => False) → ∀ d i, Calls Try.prog 28 #[.pointer P0, plV d i] V fun e w' => e = .returned (.pointer none) ∧ Frm V w' fun _ => False
  has : ∀ V, (Frm w V fun _ => False) → ∀ d, Calls Try.prog 10 #[.pointer P0, .int .i64 d] V fun e w' => e = .returned (.bool false) ∧ V = w'
  places : ∀ V, (Frm w V fun _ => False) → ∀ th, Calls Try.prog 16 #[.pointer P0, .int .i64 th] V fun e w' => ∃ A, e = .returned (.slice A 0 0) ∧ Frm V w' fun _ => False
set_option maxRecDepth 100000 in
theorem places_nil (th : Int) (w : World) : Calls Try.prog 16 #[.pointer none, .int .i64 th] w fun e w' => ∃ A, e = .returned (.slice A 0 0) ∧ Frm w w' fun _ => False := by
  go_enter Try.func16, Try.ntmps16
  go_wp2_with fail
  go_loopw [4, 5] (fun o i wr => i = .int .i64 2 ∧ o = .slice none 0 0 ∧ w = wr) (fun _ i _ => 0)
  case atStart => exact ⟨rfl, rfl, rfl⟩
  case round =>
    obtain ⟨rfl, rfl, rfl⟩ := hrel
    go_wp2_with (go_at_call 32; refine (clipP_any none 0 0 (by omega) _).mono ?_; rintro e w' ⟨rfl, rfl⟩)
    go_ret
    exact ⟨none, rfl, Frm.refl _ _⟩
theorem zero_nil (w : World) : Zero w none :=
  ⟨fun V _ d i => at_nil d i V, fun V _ d => has_nil d V, fun V _ th => places_nil th V⟩
theorem zero_set (w : World) (s : Nat) (h : w.cell? ⟨s, 0, none⟩ = some (.map none)) : Zero w (some ⟨s, 0, none⟩) :=
  ⟨fun V hf d i => at_zero s d i V (hf.cell h id), fun V hf d => has_zero s d V (hf.cell h id), fun V hf th =>
    (places_any s _ [] th V (setR_zero V s (hf.cell h id)) (by intro d; simp [vw, vrow, vget])).mono fun e w' ⟨A, n, he, hS, hf⟩ => by
      have hz : pls th (vw []) = [] := rfl
      have := hS.len
      rw [hz] at this
      simp [plc] at this
      obtain rfl : n = 0 := by omega
      exact ⟨A, he, hf⟩⟩
theorem Zero.new_ {w w' : World} {P0 : Option Addr} (h : Zero w P0) (hf : Frm w w' fun _ => False) : Zero w' P0 :=
  ⟨fun V h2 => h.at_ V (hf.then_ h2), fun V h2 => h.has V (hf.then_ h2), fun V h2 => h.places V (hf.then_ h2)⟩
abbrev acV (k d i tt now : Int) (X : Option Addr) (n c : Nat) (a f : Int) : Value := .agg #[.int .u8 k, .int .i64 d, .int .i64 i, .int .i64 tt, .int .u64 now, .slice X n c, .int .u64 a, .int .u64 f]
set_option maxRecDepth 100000 in
set_option maxHeartbeats 1000000 in
theorem void_any (k d i tt now : Int) (X : Option Addr) (n c : Nat) (a f : Int) (w : World) : Calls Try.prog 5 #[acV k d i tt now X n c a f] w fun e w' => e = .returned (.bool true) ∧ Frm w w' fun _ => False := by
  have e33 := neq33
  have eg33 := eqg33
  go_enter Try.func5, Try.ntmps5
  go_wp2_with fail
  refine at_world' ?_
  intro W hW
  have hF : Frm w W fun _ => False := by rw [hW]; exact (((Frm.refl _ _).alloc _).alloc _).alloc _
  have q0 : W.cell? ⟨w.heap.size, 0, none⟩ = some (.int .u8 k) := by subst hW; go_simp
  have q1 : W.cell? ⟨w.heap.size, 1, none⟩ = some (.int .i64 d) := by subst hW; go_simp
  have q2 : W.cell? ⟨w.heap.size, 2, none⟩ = some (.int .i64 i) := by subst hW; go_simp
  have q3 : W.cell? ⟨w.heap.size, 3, none⟩ = some (.int .i64 tt) := by subst hW; go_simp
  have q4 : W.cell? ⟨w.heap.size, 4, none⟩ = some (.int .u64 now) := by subst hW; go_simp
  have q5 : W.cell? ⟨w.heap.size, 5, none⟩ = some (.slice X n c) := by subst hW; go_simp
  have q6 : W.cell? ⟨w.heap.size, 6, none⟩ = some (.int .u64 a) := by subst hW; go_simp
  have q7 : W.cell? ⟨w.heap.size, 7, none⟩ = some (.int .u64 f) := by subst hW; go_simp
  have l0 : W.cell? ⟨w.heap.size + 1 + 1, 0, none⟩ = some (.pointer none) := by subst hW; go_simp
  have l1 : W.cell? ⟨w.heap.size + 1 + 1, 1, none⟩ = some (.pointer (some ⟨w.heap.size + 1, 0, none⟩)) := by subst hW; go_simp
  have z0 : W.cell? ⟨w.heap.size + 1, 0, none⟩ = some (.map none) := by subst hW; go_simp
  obtain ⟨b, hb⟩ : ∃ b, w.heap.size = b := ⟨_, rfl⟩
  rw [hb] at q0 q1 q2 q3 q4 q5 q6 q7 l0 l1 z0 ⊢
  have HC := Lib.hid (fun V (hf : Frm W V fun _ => False) => And.intro (hf.cell q1 id) (And.intro (hf.cell q2 id) (And.intro (hf.cell q3 id) (And.intro (hf.cell q4 id) (And.intro (hf.cell q5 id) (And.intro (hf.cell q6 id) (hf.cell q7 id)))))))
  have HL := Lib.hid (show ∀ k < 2, ∃ P0, W.cell? ⟨b + 1 + 1, k, none⟩ = some (.pointer P0) ∧ Zero W P0 from fun k hk => by
    obtain rfl | rfl : k = 0 ∨ k = 1 := by omega
    · exact ⟨_, l0, zero_nil W⟩
    · exact ⟨_, l1, zero_set W _ z0⟩)
  have HF := Lib.hid hF
  clear q0 q1 q2 q3 q4 q5 q6 q7 l0 l1 z0 hF hW hb
  go_loopw [5] (fun i wr => ∃ k : Nat, i = .int .i64 k ∧ k ≤ 2 ∧ Frm W wr fun _ => False) (fun i _ => 2 - (intOf i).toNat)
  case atStart => exact ⟨0, rfl, by omega, Frm.refl _ _⟩
  case round =>
    obtain ⟨k, rfl, hk, hG⟩ := hrel
    obtain ⟨c1, c2, c3, c4, c5, c6, c7⟩ := HC.out wr hG
    have G := Lib.hid hG
    by_cases hlk : k < 2
    · have k0 : (0 : Int) ≤ (k : Int) := by omega
      have k1 : (k : Int) < 2 := by omega
      obtain ⟨P0, hp, hz⟩ := HL.out k hlk
      have hp2 := hG.cell hp id
      have Z := Lib.hid (hz.new_ hG)
      have HC2 := Lib.hid (fun V (hf : Frm wr V fun _ => False) => HC.out V (G.out.then_ hf))
      clear hG hp hz c2 c3 c4 c5 c6 c7 c1
      have D := Lib.hid (Frm.refl wr fun _ => False)
      obtain ⟨c1, c2, c3, c4, c5, c6, c7⟩ := HC2.out wr D.out
      have ecell := fun V (hf : Frm wr V fun _ => False) => HC2.out V hf
      have HE := Lib.hid ecell
      clear ecell
      go_wp2_with (first
        | (go_at_call 23; refine (put_no P0 d i _ _ (fun V h2 => Z.out.at_ V (D.out.then_ h2) d i)).mono ?_; rintro _ w' ⟨rfl, hf⟩; replace D := Lib.hid (D.out.then_ hf); clear hf; obtain ⟨c1, c2, c3, c4, c5, c6, c7⟩ := HE.out _ D.out)
        | (go_at_call 24; refine (putTimer_no P0 d i a f _ (fun V h2 => Z.out.at_ V (D.out.then_ h2) d i)).mono ?_; rintro _ w' ⟨rfl, hf⟩; replace D := Lib.hid (D.out.then_ hf); clear hf; obtain ⟨c1, c2, c3, c4, c5, c6, c7⟩ := HE.out _ D.out)
        | (go_at_call 11; refine (grow_no1 P0 d tt now _ (Z.out.has _ D.out d)).mono ?_; rintro _ _ ⟨rfl, rfl⟩)
        | (go_at_call 10; refine (Z.out.has _ D.out d).mono ?_; rintro _ _ ⟨rfl, rfl⟩)
        | (go_at_call 25; refine (queue_no P0 d i _ (fun V h2 => Z.out.at_ V (D.out.then_ h2) d i)).mono ?_; rintro _ w' ⟨rfl, hf⟩; replace D := Lib.hid (D.out.then_ hf); clear hf; obtain ⟨c1, c2, c3, c4, c5, c6, c7⟩ := HE.out _ D.out)
        | (go_at_call 12; refine (timer_no P0 d i _ (fun V h2 => Z.out.at_ V (D.out.then_ h2) d i)).mono ?_; rintro _ w' ⟨rfl, hf⟩; replace D := Lib.hid (D.out.then_ hf); clear hf; obtain ⟨c1, c2, c3, c4, c5, c6, c7⟩ := HE.out _ D.out)
        | (go_at_call 16; refine (Z.out.places _ D.out tt).mono ?_; rintro _ w' ⟨A9, rfl, hf⟩; replace D := Lib.hid (D.out.then_ hf); clear hf))
      go_roundw
      case rel => exact ⟨k + 1, by go_num, by omega, G.out.then_ D.out⟩
      case measure => simp [intOf]; omega
    · obtain rfl : k = 2 := by omega
      clear c1 c2 c3 c4 c5 c6 c7 hG
      go_wp2_with (go_at_call 7; refine (lives_any _).mono ?_; rintro _ w' ⟨rfl, hf⟩; have HL2 := Lib.hid hf; clear hf)
      go_ret
      exact ⟨rfl, (HF.out.then_ G.out).then_ HL2.out⟩
end Go.Proofs.Ytajcijocjbakbaa
