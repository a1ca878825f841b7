import Derived.Test.YtllicaibgjjidaaLkG
namespace Go.Proofs.Ytllicaibgjjidaa
open Go.RowKit

/-- A slice of acts that came in: its elements' three cells. -/
def Acts (w : World) (A : Option Addr) (len : Nat) (K X Y : Nat → Int) : Prop :=
  0 < len → ∃ b off, A = some ⟨b, off, none⟩ ∧ b < w.heap.size ∧ ∀ i, i < len →
    w.cell? ⟨b, off + i * 3, none⟩ = some (.int .u8 (K i)) ∧ w.cell? ⟨b, off + i * 3 + 1, none⟩ = some (.int .i64 (X i)) ∧ w.cell? ⟨b, off + i * 3 + 2, none⟩ = some (.int .i64 (Y i)) ∧ 0 ≤ K i ∧ K i ≤ 255

theorem lives_below (w : World) (B : Nat) (hB : B ≤ w.heap.size) : Calls Try.prog 23 #[] w fun e w' => e = .returned (.bool true) ∧ Below B w w' :=
  (lives_any w).mono fun _ _ h => ⟨h.1, (only_below h.2).mono hB⟩

theorem play_walk (A : Option Addr) (len cap : Nat) (K X Y : Nat → Int) (w : World) (hA : Acts w A len K X Y) (hl : len ≤ 9223372036854775807) :
    Calls Try.prog 6 #[.slice A len cap] w fun e w' => e = .returned (.bool true) ∧ Below w.heap.size w w' := by
  by_cases h200 : 200 < len
  · have hb : decide (200 < len) = true := by simpa using h200
    go_enter Try.func6, Try.ntmps6
    go_wp2_with (go_at_call 23; refine (lives_below _ w.heap.size (by simp)).mono ?_; rintro e w' ⟨rfl, hbel⟩)
    go_ret
    exact ⟨rfl, hbel⟩
  · have hz := zero53
    have hA' := Lib.hid hA
    clear hA
    go_enter Try.func6, Try.ntmps6
    go_wp2_with fail
    refine (new_any w).mono ?_; rintro e w1 ⟨rfl, h1, g1⟩
    have s1 := h1.lt
    have hb1 := only_below g1
    have hB1 : Hid (Lnk (w1.alloc (.cells Z192 53)) w.heap.size (fun _ => 0)) := h1.alloc _
    have hB2 : Hid (Lnk (w1.alloc (.cells Z192 53)) w1.heap.size (fun _ => 0)) := lnk_new _ _
    have hB3 : Hid (Below w.heap.size w (w1.alloc (.cells Z192 53))) := hb1.alloc hb1.size _
    clear h1 hb1 g1
    go_wp2_with fail
    go_loopw [5] (fun i wr => ∃ k : Nat, i = .int .i64 k ∧ k ≤ len ∧ Twin w.heap.size w.heap.size w1.heap.size w wr) (fun i _ => len - (intOf i).toNat)
    case atStart => exact ⟨0, rfl, Nat.zero_le _, _, hB1.out, hB2.out, ok0, hB3.out⟩
    case round =>
      clear hB1 hB2 hB3 hz
      obtain ⟨k, rfl, hk, f, hb, hc, ok, hbel⟩ := hrel
      by_cases hlt : k < len
      · obtain ⟨ab, off, rfl, hab, hcells⟩ := hA'.out (by omega)
        obtain ⟨e0, e1, e2, k0, k1⟩ := hcells k hlt
        clear hcells
        have d0 : wr.cell? ⟨ab, off + k * 3, none⟩ = some (.int .u8 (K k)) := (hbel.cell (p := ⟨ab, off + k * 3, none⟩) hab).trans e0
        have d1 : wr.cell? ⟨ab, off + k * 3 + 1, none⟩ = some (.int .i64 (X k)) := (hbel.cell (p := ⟨ab, off + k * 3 + 1, none⟩) hab).trans e1
        have d2 : wr.cell? ⟨ab, off + k * 3 + 2, none⟩ = some (.int .i64 (Y k)) := (hbel.cell (p := ⟨ab, off + k * 3 + 2, none⟩) hab).trans e2
        have HB := Lib.hid hbel
        have hne : w.heap.size ≠ w1.heap.size := by omega
        clear e0 e1 e2 hbel
        go_wp2_with fail
        refine (do_any w.heap.size w.heap.size w1.heap.size f (K k) (X k) (Y k) _ hb hc ok hne (Nat.le_refl _) (by omega) k0 k1).mono ?_
        rintro e w2 ⟨rfl, f2, hb2, hc2, ok2, hbel2⟩
        have HB2 := Lib.hid (HB.out.trans hbel2)
        clear hbel2 d0 d1 d2 hb hc
        go_wp2_with (go_at_call 26; refine (same_any _ _ f2 _ hb2 hc2 ok2).mono ?_; rintro e w3 ⟨rfl, hg3⟩)
        go_roundw
        case rel => exact ⟨k + 1, by go_num, by omega, f2, hb2.grown hg3 (by simp), hc2.grown hg3 (by simp), ok2, HB2.out.trans ((only_below hg3).mono HB2.out.size)⟩
        case measure => simp [intOf]; omega
      · have hbs := hbel.size
        go_wp2_with (go_at_call 23; refine (lives_below _ w.heap.size hbs).mono ?_; rintro e w' ⟨rfl, hbel3⟩)
        go_ret
        exact ⟨rfl, hbel.trans hbel3⟩
end Go.Proofs.Ytllicaibgjjidaa
