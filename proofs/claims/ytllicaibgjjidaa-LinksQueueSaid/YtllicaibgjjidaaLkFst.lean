/-
  'laybylaw05.LinksFirst': whatever acts and numbers are handed in, the law returns true, and each argument reads behind the call as it read before. No condition.
-/
import Derived.Test.YtllicaibgjjidaaLkPlay
namespace Lk
theorem push_self (f : St) (a h : Int) (a0 : 0 ≤ a) (a1 : a < 64) (h0 : 0 ≤ h) (h1 : h < 64) : nx (push f a h) a = h + 1 ∧ pv (push f a h) a = 0 ∧ tl (push f a h) a = 0 := by
  have e : push f a h = set3 f a (h + 1) 0 0 := by unfold push; rw [if_pos ((thr_iff _).2 ⟨a0, a1⟩), if_pos ((thr_iff _).2 ⟨h0, h1⟩)]
  rw [e, set3_nx _ _ _ _ _ _ a0 a0, set3_pv _ _ _ _ _ _ a0 a0, set3_tl _ _ _ _ _ _ a0 a0]
  simp
theorem push_alone (f : St) (a : Int) (a0 : 0 ≤ a) (a1 : a < 64) : nx (push f a (-1)) a = 0 ∧ pv (push f a (-1)) a = 0 ∧ tl (push f a (-1)) a = a + 1 := by
  have e : push f a (-1) = set3 f a 0 0 (a + 1) := by unfold push; rw [if_pos ((thr_iff _).2 ⟨a0, a1⟩)]; rfl
  rw [e, set3_nx _ _ _ _ _ _ a0 a0, set3_pv _ _ _ _ _ _ a0 a0, set3_tl _ _ _ _ _ _ a0 a0]
  simp
theorem push_others (f : St) (a h i : Int) (a0 : 0 ≤ a) (_a1 : a < 64) (i0 : 0 ≤ i) (hne : i ≠ a) : nx (push f a h) i = nx f i ∧ pv (push f a h) i = pv f i ∧ tl (push f a h) i = tl f i := by
  unfold push
  split
  · split
    · rw [set3_nx _ _ _ _ _ _ a0 i0, set3_pv _ _ _ _ _ _ a0 i0, set3_tl _ _ _ _ _ _ a0 i0]; simp [hne]
    · rw [set3_nx _ _ _ _ _ _ a0 i0, set3_pv _ _ _ _ _ _ a0 i0, set3_tl _ _ _ _ _ _ a0 i0]; simp [hne]
  · exact ⟨rfl, rfl, rfl⟩
theorem seek_alone (f : St) (a : Int) (a0 : 0 ≤ a) (a1 : a < 64) (ht : tl f a = a + 1) : seek f a = (stop f a a, a) := by
  unfold seek
  rw [if_pos ((thr_iff _).2 ⟨a0, a1⟩)]
  unfold seekGo
  rw [if_neg (by omega), ht]
  congr 1; omega
theorem cut_alone (f : St) (a : Int) (hp : pv f a = 0) : (cut (stop f a a) a a).2 = -1 := by
  have e : pv (stop f a a) a = 0 := by unfold stop; rw [pv_upd2]; exact hp
  unfold cut
  rw [e]; simp
end Lk
namespace Go.Proofs.Ytllicaibgjjidaa.First
open Go.RowKit
theorem zero73 (w : World) : (zeroValue 73).run Try.prog w = .ok (.agg Z192) w := by kernel_rfl

/-- What the array 'was' holds: of the first k threads what At tells. -/
def Was (f g : Nat → Int) (k : Nat) : Prop := ∀ i, i < k → g (i * 3) = Lk.nx f i - 1 ∧ g (i * 3 + 1) = Lk.pv f i - 1 ∧ g (i * 3 + 2) = Lk.tl f i - 1

theorem below_drewN' {B : Nat} {a w : World} (h : Below B a w) (n : Nat) : Below B a (w.drewN n) := ⟨h.os, h.tape, h.output, h.size, h.block⟩
def put3 (g : Nat → Int) (k : Nat) (x y z : Int) : Nat → Int := Lk.upd (Lk.upd (Lk.upd g (k * 3) x) (k * 3 + 1) y) (k * 3 + 2) z
theorem Was.step {f g : Nat → Int} {k : Nat} (h : Was f g k) : Was f (put3 g k (Lk.nx f k - 1) (Lk.pv f k - 1) (Lk.tl f k - 1)) (k + 1) := by
  intro i hi
  unfold put3
  by_cases e : i = k
  · subst e
    refine ⟨?_, ?_, ?_⟩
    · rw [Lk.upd_other _ _ _ _ (by omega), Lk.upd_other _ _ _ _ (by omega), Lk.upd_same]
    · rw [Lk.upd_other _ _ _ _ (by omega), Lk.upd_same]
    · rw [Lk.upd_same]
  · obtain ⟨e0, e1, e2⟩ := h i (by omega)
    refine ⟨?_, ?_, ?_⟩
    · rw [Lk.upd_other _ _ _ _ (by omega), Lk.upd_other _ _ _ _ (by omega), Lk.upd_other _ _ _ _ (by omega)]; exact e0
    · rw [Lk.upd_other _ _ _ _ (by omega), Lk.upd_other _ _ _ _ (by omega), Lk.upd_other _ _ _ _ (by omega)]; exact e1
    · rw [Lk.upd_other _ _ _ _ (by omega), Lk.upd_other _ _ _ _ (by omega), Lk.upd_other _ _ _ _ (by omega)]; exact e2
theorem lnk_put3 {w : World} {b : Nat} {f : Nat → Int} (h : Lnk w b f) (k : Nat) (x y z : Int) (h1 : k < 64) :
    Lnk (((w.setCell ⟨b, k * 3, none⟩ (.int .i64 x)).setCell ⟨b, k * 3 + 1, none⟩ (.int .i64 y)).setCell ⟨b, k * 3 + 2, none⟩ (.int .i64 z)) b (put3 f k x y z) :=
  ((h.set (by omega) x).set (by omega) y).set (by omega) z

theorem at_first (b : Nat) (f : Nat → Int) (a c : Int) (a0 : 0 ≤ a) (a1 : a < 64) (c0 : 0 ≤ c) (c1 : c < 64) (w : World) (h : Lnk w b (Lk.push f a c)) (ok : Lk.Ok f) :
    Calls Try.prog 28 #[.pointer (some ⟨b, 0, none⟩), .int .i64 a] w fun e w' => e = .returned (.agg #[.int .i64 c, .int .i64 (-1), .int .i64 (-1)]) ∧ w.grownBy w' none := by
  have := At_yes b _ a a0 a1 w h (ok.push a c)
  obtain ⟨e0, e1, e2⟩ := Lk.push_self f a c a0 a1 c0 c1
  rw [e0, e1, e2, show c + 1 - 1 = c from by omega] at this
  exact this
theorem at_alone (b : Nat) (f : Nat → Int) (a : Int) (a0 : 0 ≤ a) (a1 : a < 64) (w : World) (h : Lnk w b (Lk.push f a (-1))) (ok : Lk.Ok f) :
    Calls Try.prog 28 #[.pointer (some ⟨b, 0, none⟩), .int .i64 a] w fun e w' => e = .returned (.agg #[.int .i64 (-1), .int .i64 (-1), .int .i64 a]) ∧ w.grownBy w' none := by
  have := At_yes b _ a a0 a1 w h (ok.push a (-1))
  obtain ⟨e0, e1, e2⟩ := Lk.push_alone f a a0 a1
  rw [e0, e1, e2, show a + 1 - 1 = a from by omega] at this
  exact this
theorem at_others (b : Nat) (f : Nat → Int) (a c : Int) (i : Nat) (a0 : 0 ≤ a) (a1 : a < 64) (i1 : i < 64) (hne : (i : Int) ≠ a) (w : World) (h : Lnk w b (Lk.push (Lk.push f a c) a (-1))) (ok : Lk.Ok f) :
    Calls Try.prog 28 #[.pointer (some ⟨b, 0, none⟩), .int .i64 i] w fun e w' => e = .returned (.agg #[.int .i64 (Lk.nx f i - 1), .int .i64 (Lk.pv f i - 1), .int .i64 (Lk.tl f i - 1)]) ∧ w.grownBy w' none := by
  have := At_yes b _ i (by omega) (by omega) w h ((ok.push a c).push a (-1))
  obtain ⟨e0, e1, e2⟩ := Lk.push_others (Lk.push f a c) a (-1) i a0 a1 (by omega) hne
  obtain ⟨d0, d1, d2⟩ := Lk.push_others f a c i a0 a1 (by omega) hne
  rw [e0, e1, e2, d0, d1, d2] at this
  exact this
theorem seek_first (b : Nat) (f : Nat → Int) (a : Int) (a0 : 0 ≤ a) (a1 : a < 64) (w : World) (h : Lnk w b (Lk.push f a (-1))) (ok : Lk.Ok f) :
    Calls Try.prog 29 #[.pointer (some ⟨b, 0, none⟩), .int .i64 a] w fun e w' => e = .returned (.int .i64 a) ∧ Lnk w' b (Lk.stop (Lk.push f a (-1)) a a) ∧ w.grownBy w' (some b) := by
  have := seek_any b _ a w h (ok.push a (-1))
  rw [Lk.seek_alone _ a a0 a1 (Lk.push_alone f a a0 a1).2.2] at this
  exact this
theorem cut_first (b : Nat) (f : Nat → Int) (a : Int) (a0 : 0 ≤ a) (a1 : a < 64) (w : World) (h : Lnk w b (Lk.stop (Lk.push f a (-1)) a a)) (ok : Lk.Ok f) :
    Calls Try.prog 30 #[.pointer (some ⟨b, 0, none⟩), .int .i64 a, .int .i64 a] w fun e w' => e = .returned (.int .i64 (-1)) ∧ w.grownBy w' (some b) := by
  have := cut_any b _ a a w h ((ok.push a (-1)).stop a a)
  rw [Lk.cut_alone _ a (Lk.push_alone f a a0 a1).2.1] at this
  exact this.mono fun e w' ⟨h1, _, h2⟩ => ⟨h1, h2⟩

set_option maxHeartbeats 4000000 in
set_option maxRecDepth 100000 in
theorem walk (A : Option Addr) (len cap : Nat) (K X Y : Nat → Int) (t h : Int) (t0 : 0 ≤ t) (t1 : t ≤ 255) (h0 : 0 ≤ h) (h1 : h ≤ 255) (w : World) (hA : Acts w A len K X Y) (hl : len ≤ 9223372036854775807) :
    Calls Try.prog 9 #[.slice A len cap, .int .u8 t, .int .u8 h] w fun e w' => e = .returned (.bool true) ∧ Below w.heap.size w w' := by
  by_cases h100 : 100 < len
  · go_enter Try.func9, Try.ntmps9
    go_wp2_with (go_at_call 23; refine (lives_below _ w.heap.size (by simp)).mono ?_; rintro e w' ⟨rfl, hbel⟩)
    go_ret
    exact ⟨rfl, hbel⟩
  · have hz := zero73
    have hA' := Lib.hid hA
    clear hA
    go_enter Try.func9, Try.ntmps9
    go_wp2_with fail
    refine (new_any w).mono ?_; rintro e w1 ⟨rfl, hn1, g1⟩
    have hN : Hid (Lnk w1 w.heap.size (fun _ => 0)) := hn1
    have hB : Hid (Below w.heap.size w w1) := only_below g1
    clear hn1 g1
    go_wp2_with fail
    go_loopw [8] (fun i wr => ∃ k : Nat, i = .int .i64 k ∧ k ≤ len ∧ ∃ f, Lnk wr w.heap.size f ∧ Lk.Ok f ∧ Below w.heap.size w wr) (fun i _ => len - (intOf i).toNat)
    case atStart => exact ⟨0, rfl, Nat.zero_le _, _, hN.out, ok0, hB.out⟩
    case round =>
      clear hN hB
      obtain ⟨k, rfl, hk, f, hb, ok, hbel⟩ := hrel
      by_cases hlt : k < len
      · obtain ⟨ab, off, rfl, hab, hcells⟩ := hA'.out (by omega)
        obtain ⟨e0, e1, e2, k0, k1⟩ := hcells k hlt
        clear hcells
        have d0 : wr.cell? ⟨ab, off + k * 3, none⟩ = some (.int .u8 (K k)) := (hbel.cell (p := ⟨ab, off + k * 3, none⟩) hab).trans e0
        have d1 : wr.cell? ⟨ab, off + k * 3 + 1, none⟩ = some (.int .i64 (X k)) := (hbel.cell (p := ⟨ab, off + k * 3 + 1, none⟩) hab).trans e1
        have d2 : wr.cell? ⟨ab, off + k * 3 + 2, none⟩ = some (.int .i64 (Y k)) := (hbel.cell (p := ⟨ab, off + k * 3 + 2, none⟩) hab).trans e2
        have hbl := hb.lt
        have HB := Lib.hid hbel
        clear e0 e1 e2 hbel
        by_cases hev : K k % 2 = 0
        · have ev : (K k % 2 == 0) = true := by simpa using hev
          have hbd := hb.drew
          have ik : (0 : Int) ≤ (k : Int) := by omega
          have ik1 : (k : Int) < (len : Int) := by omega
          clear hev
          go_wp2_with fail
          go_region_held3 (fun w' => w'.cell? ⟨ab, off + k * 3 + 1, none⟩ = some (.int .i64 (X k)) ∧ w'.cell? ⟨ab, off + k * 3 + 2, none⟩ = some (.int .i64 (Y k))) (first | assumption | go_keep | (refine ⟨?_, ?_⟩ <;> first | assumption | go_keep)) (first | (go_at_call 27; refine (push_any w.heap.size f (X k) (Y k) _ hbd).mono ?_; rintro e w2 ⟨rfl, h2, g2⟩; have p1 : w2.cell? ⟨ab, off + k * 3 + 1, none⟩ = some (.int .i64 (X k)) := g2.cell (a := ⟨ab, off + k * 3 + 1, none⟩) d1 (by simp; omega); have p2 : w2.cell? ⟨ab, off + k * 3 + 2, none⟩ = some (.int .i64 (Y k)) := g2.cell (a := ⟨ab, off + k * 3 + 2, none⟩) d2 (by simp; omega)))
          go_wp2
          go_roundw
          case rel => exact ⟨k + 1, by go_num, by omega, _, h2, ok.push _ _, below_only HB.out.drew g2 (Nat.le_refl _) (by simp; omega)⟩
          case measure => simp [intOf]; omega
        · have ev : (K k % 2 == 0) = false := by simpa using hev
          clear hev
          go_wp2_with fail
          refine (seek_any w.heap.size f (X k) _ hb ok).mono ?_; rintro e w2 ⟨rfl, h2, g2⟩
          go_wp2_with fail
          go_roundw
          case rel => exact ⟨k + 1, by go_num, by omega, _, h2, ok.seek _, below_only HB.out g2 (Nat.le_refl _) (by omega)⟩
          case measure => simp [intOf]; omega
      · have hbl := hb.lt
        have HB := Lib.hid hbel
        clear hbel
        have hL : Hid (Lnk (wr.alloc (.cells Z192 73)) w.heap.size f) := hb.alloc _
        have hG : Hid (Lnk (wr.alloc (.cells Z192 73)) wr.heap.size (fun _ => 0)) := lnk_new _ _
        have hB2 : Hid (Below w.heap.size w (wr.alloc (.cells Z192 73))) := HB.out.alloc (by omega) _
        clear hb HB
        obtain ⟨wo, rfl⟩ : ∃ wo : World, wo = wr := ⟨_, rfl⟩
        go_wp2_with fail
        clear hz
        go_loopw [10] (fun i wx => ∃ k : Nat, i = .int .i64 k ∧ k ≤ 64 ∧ ∃ g, Lnk wx w.heap.size f ∧ Lnk wx wo.heap.size g ∧ Was f g k ∧ Below w.heap.size w wx) (fun i _ => 64 - (intOf i).toNat)
        case atStart => exact ⟨0, rfl, Nat.zero_le _, _, hL.out, hG.out, fun i hi => by omega, hB2.out⟩
        case round =>
          clear hL hG hB2
          obtain ⟨k, rfl, hk, g, hb, hg, hw, hbel⟩ := hrel
          by_cases hlt : k < 64
          · have HW := Lib.hid hw
            have HB := Lib.hid hbel
            clear hw hbel
            have ik : (0 : Int) ≤ (k : Int) := by omega
            have ik1 : (k : Int) < 64 := by omega
            go_wp2_with fail
            refine (At_yes w.heap.size f k ik ik1 _ hb ok).mono ?_; rintro e w2 ⟨rfl, g2⟩; unfold linkV
            have hb2 := hb.grown g2 (by simp)
            have hg2 := hg.grown g2 (by simp)
            have c0 := hg2.cell (k * 3) (by omega)
            have c1 := hg2.cell (k * 3 + 1) (by omega)
            have c2 := hg2.cell (k * 3 + 2) (by omega)
            have f0 := hg2.free (k * 3)
            have f1 := hg2.free (k * 3 + 1)
            have f2 := hg2.free (k * 3 + 2)
            have HB2 := Lib.hid (HB.out.trans ((only_below g2).mono HB.out.size))
            clear g2 hb hg
            go_wp2_with fail
            go_roundw
            case rel => exact ⟨k + 1, by go_num, by omega, _, ((hb2.far (p := ⟨wo.heap.size, k * 3, none⟩) (by simp; omega) _).far (p := ⟨wo.heap.size, k * 3 + 1, none⟩) (by simp; omega) _).far (p := ⟨wo.heap.size, k * 3 + 2, none⟩) (by simp; omega) _, lnk_put3 hg2 k _ _ _ hlt, HW.out.step, ((HB2.out.setCell (p := ⟨wo.heap.size, k * 3, none⟩) (by simp; omega) _).setCell (p := ⟨wo.heap.size, k * 3 + 1, none⟩) (by simp; omega) _).setCell (p := ⟨wo.heap.size, k * 3 + 2, none⟩) (by simp; omega) _⟩
            case measure => simp [intOf]; omega
          · obtain rfl : k = 64 := by omega
            have HW := Lib.hid hw
            have HB := Lib.hid hbel
            clear hw hbel
            have u0 : 0 ≤ t % 64 := by omega
            have u1 : t % 64 < 64 := by omega
            have v0 : 0 ≤ h % 64 := by omega
            have v1 : h % 64 < 64 := by omega
            go_wp2_with fail
            refine (push_any w.heap.size f (t % 64) (h % 64) _ hb).mono ?_; rintro e w2 ⟨rfl, h2, g2⟩
            have hg2 := hg.grown g2 (by simp; omega)
            have HB2 := Lib.hid (below_only HB.out g2 (Nat.le_refl _) HB.out.size)
            clear g2 hb hg
            go_wp2_with fail
            refine (at_first w.heap.size f (t % 64) (h % 64) u0 u1 v0 v1 _ h2 ok).mono ?_; rintro e w3 ⟨rfl, g3⟩
            have h3 := h2.grown g3 (by simp)
            have hg3 := hg2.grown g3 (by simp)
            have HB3 := Lib.hid (HB2.out.trans ((only_below g3).mono HB2.out.size))
            clear g3 h2 hg2
            go_wp2_with fail
            refine (push_any w.heap.size _ (t % 64) (-1) _ h3).mono ?_; rintro e w4 ⟨rfl, h4, g4⟩
            have hg4 := hg3.grown g4 (by simp; omega)
            have HB4 := Lib.hid (below_only HB3.out g4 (Nat.le_refl _) HB3.out.size)
            have HL4 := Lib.hid h4
            have HG4 := Lib.hid hg4
            clear g4 h3 hg3 h4 hg4
            go_wp2_with fail
            go_loopw [12] (fun i wx => ∃ k : Nat, i = .int .i64 k ∧ k ≤ 64 ∧ Lnk wx w.heap.size (Lk.push (Lk.push f (t % 64) (h % 64)) (t % 64) (-1)) ∧ Lnk wx wo.heap.size g ∧ Below w.heap.size w wx) (fun i _ => 64 - (intOf i).toNat)
            case atStart => exact ⟨0, rfl, Nat.zero_le _, HL4.out, HG4.out, HB4.out⟩
            case round =>
              clear HL4 HG4 HB4
              obtain ⟨k3, rfl, hk3, hb, hg, hbel⟩ := hrel
              have HB5 := Lib.hid hbel
              clear hbel
              by_cases hlt3 : k3 < 64
              · have ik : (0 : Int) ≤ (k3 : Int) := by omega
                have ik1 : (k3 : Int) < 64 := by omega
                by_cases hne : (k3 : Int) = t % 64
                · have eb : ((k3 : Int) != t % 64) = false := by simp [hne]
                  clear hne
                  go_wp2_with fail
                  go_quiet (fail)
                  go_wp2
                  go_roundw
                  case rel => exact ⟨k3 + 1, by go_num, by omega, hb.drewN _, hg.drewN _, below_drewN' HB5.out _⟩
                  case measure => simp [intOf]; omega
                · have eb : ((k3 : Int) != t % 64) = true := by simp [hne]
                  obtain ⟨x0, x1, x2⟩ := HW.out k3 hlt3
                  have C := at_others w.heap.size f (t % 64) (h % 64) k3 u0 u1 hlt3 hne wr.drew hb.drew ok
                  have HC := Lib.hid C
                  have q0 : wr.cell? ⟨wo.heap.size, k3 * 3, none⟩ = some (.int .i64 (Lk.nx f k3 - 1)) := x0 ▸ hg.cell _ (by omega)
                  have q1 : wr.cell? ⟨wo.heap.size, k3 * 3 + 1, none⟩ = some (.int .i64 (Lk.pv f k3 - 1)) := x1 ▸ hg.cell _ (by omega)
                  have q2 : wr.cell? ⟨wo.heap.size, k3 * 3 + 2, none⟩ = some (.int .i64 (Lk.tl f k3 - 1)) := x2 ▸ hg.cell _ (by omega)
                  clear hne C x0 x1 x2
                  go_wp2_with fail
                  go_region_held3 (fun w' => w'.cell? ⟨wo.heap.size, k3 * 3, none⟩ = some (.int .i64 (Lk.nx f k3 - 1)) ∧ w'.cell? ⟨wo.heap.size, k3 * 3 + 1, none⟩ = some (.int .i64 (Lk.pv f k3 - 1)) ∧ w'.cell? ⟨wo.heap.size, k3 * 3 + 2, none⟩ = some (.int .i64 (Lk.tl f k3 - 1))) (first | assumption | go_keep | (refine ⟨?_, ?_, ?_⟩ <;> first | assumption | go_keep)) (first | (go_at_call 28; refine HC.out.mono ?_; rintro e w5 ⟨rfl, g5⟩; have p0 := g5.cell (a := ⟨wo.heap.size, k3 * 3, none⟩) q0 (by simp); have p1 := g5.cell (a := ⟨wo.heap.size, k3 * 3 + 1, none⟩) q1 (by simp); have p2 := g5.cell (a := ⟨wo.heap.size, k3 * 3 + 2, none⟩) q2 (by simp)))
                  go_wp2
                  go_roundw
                  case rel => exact ⟨k3 + 1, by go_num, by omega, hb.drew.grown g5 (by simp), hg.drew.grown g5 (by simp), HB5.out.drew.trans ((only_below g5).mono HB5.out.size)⟩
                  case measure => simp [intOf]; omega
              · have okp := ok.push (t % 64) (h % 64)
                clear hg
                go_wp2_with fail
                refine (at_alone w.heap.size _ (t % 64) u0 u1 _ hb okp).mono ?_; rintro e w5 ⟨rfl, g5⟩
                have hb5 := hb.grown g5 (by simp)
                have HB6 := Lib.hid (HB5.out.trans ((only_below g5).mono HB5.out.size))
                clear g5 hb
                go_wp2_with fail
                refine (seek_first w.heap.size _ (t % 64) u0 u1 _ hb5 okp).mono ?_; rintro e w6 ⟨rfl, h6, g6⟩
                have HB7 := Lib.hid (below_only HB6.out g6 (Nat.le_refl _) HB6.out.size)
                clear g6 hb5
                go_wp2_with fail
                refine (cut_first w.heap.size _ (t % 64) u0 u1 _ h6 okp).mono ?_; rintro e w7 ⟨rfl, g7⟩
                have HB8 := Lib.hid (below_only HB7.out g7 (Nat.le_refl _) HB7.out.size)
                clear g7 h6
                go_wp2_with fail
                refine (lives_below _ w.heap.size HB8.out.size).mono ?_; rintro e w8 ⟨rfl, g8⟩
                go_wp2
                go_ret
                exact ⟨rfl, HB8.out.trans g8⟩
open Go.ChangeShapes Go.WideShapes Go.ChangeAt

set_option maxRecDepth 100000 in
theorem lifted (os : Os) (started : os.Started) (H : Type) (enc : TypeId × Value → H) :
    ReturnsInHanded {} Try.checked os 9 .any (Rows.linksFirstSpec.pre6 enc Try.prog Try.f9 Rows.linksFirstRow.domain false) (Rows.linksFirstSpec.post enc Try.prog Try.f9 false true false false) := by
  refine returnsInHanded_of_change (C := Try.checked) own started (by kernel_rfl) Try.func9
    (ChangeSpec.witness6 (enc := enc) (C := Try.checked) false ⟨#[], #[.slice none 0 0, .int .u8 0, .int .u8 0], []⟩ 8 (by kernel_rfl) (by kernel_rfl) (by kernel_rfl) (by kernel_rfl)) ?_
  intro W base args ds gs before hval0 hW hcnd _
  have hval : ∀ (j : Nat) t v, Try.f9.params[j]? = some t → args[j]? = some v → Value.okWide Try.prog W .any base t v := hval0
  have hW' := hW
  obtain ⟨p, q, hA0, hV, rfl, hfz, hnd⟩ := hW
  have hA : DataW.TrodAll enc Try.prog W 0 (fun _ => true) true Try.f9.params.toList args.toList ds p := hA0
  rw [Try.params9] at hA hval
  obtain ⟨v0, v1, v2, d0, d1, d2, p0, p1, p2, rfl, rfl, rfl, h0, h1, h2⟩ := trodAll_three hA
  obtain ⟨rfl, rfl⟩ := trodVars_none hV
  have k0 := h0
  have lt0 : ∀ x ∈ p0, x.block < W.heap.size := by obtain ⟨m, hm⟩ := k0; exact DataW.trod_lt m _ _ _ hm
  obtain ⟨A, len, cap, K, X, Y, rfl, hl, hacts⟩ := open_acts (hval 0 45 v0 rfl rfl) h0
  obtain ⟨a, rfl, rfl, rfl, wa⟩ := open_int Try.underlying5 (hval 1 5 v1 rfl rfl) h1
  obtain ⟨b, rfl, rfl, rfl, wb⟩ := open_int Try.underlying5 (hval 2 5 v2 rfl rfl) h2
  have ha := bounds_u8 wa
  have hb := bounds_u8 wb
  clear hA0 hval0
  refine (walk A len cap K X Y a b ha.1 ha.2 hb.1 hb.2 W hacts hl).mono fun e W' ⟨he, bel⟩ => ?_
  subst he
  exact ⟨_, rfl, _, _, _, [], _, [], hW', trodAll_mk1 (shut_bool Try.underlying4 _), trodAll_mk3 (Below.trod laidOut (by kernel_rfl) (of_decide_eq_true (by kernel_rfl)) k0 bel lt0) (shut_int Try.underlying5 wa) (shut_int Try.underlying5 wb), rfl, bel.frame _, fun h => by cases h⟩

theorem holds : Rows.LinksFirstSaid :=
  OpenClaim.holds_of_wide 9 Try.f9 rfl rfl rfl rfl rfl rfl rfl ⟨rfl, rfl, rfl, rfl, rfl⟩ rfl rfl rfl rfl rfl (by kernel_rfl) Try.func9 (by kernel_rfl)
    (of_decide_eq_true (by kernel_rfl)) (by unfold Func.isWrapper; first | (rw [if_pos (by decide +kernel)]; kernel_rfl) | (rw [if_neg (by decide +kernel)]; exact ⟨rfl, rfl⟩))
    (fun os started H enc _ => lifted os started H enc)
#print axioms holds
end Go.Proofs.Ytllicaibgjjidaa.First
