import Derived.Test.YtllicaibgjjidaaLkF
import Derived.Deep.RegionHeld3
import Derived.Deep.DrawnRows
namespace Go.Proofs.Ytllicaibgjjidaa
open Go.RowKit

theorem seek_any (b : Nat) (f : Nat → Int) (head : Int) (w : World) (h : Lnk w b f) (ok : Lk.Ok f) : Calls Try.prog 29 #[.pointer (some ⟨b, 0, none⟩), .int .i64 head] w fun e w' => e = .returned (.int .i64 (Lk.seek f head).2) ∧ Lnk w' b (Lk.seek f head).1 ∧ w.grownBy w' (some b) := by
  by_cases ht : Lk.thr head = true
  · obtain ⟨t0, t1⟩ := (Lk.thr_iff _).1 ht
    exact seek_yes b f head t0 t1 w h ok
  · have e : Lk.seek f head = (f, -1) := by unfold Lk.seek; rw [if_neg ht]
    rw [e]
    refine (seek_no _ head (.inl (by simpa using ht)) w).mono ?_
    rintro e w' ⟨rfl, rfl⟩
    exact ⟨rfl, h, World.grownBy.refl _ _⟩
theorem rseek_any (b : Nat) (f : Nat → Int) (head : Int) (w : World) (h : Lnk w b f) (ok : Lk.Ok f) : Calls Try.prog 40 #[.pointer (some ⟨b, 0, none⟩), .int .i64 head] w fun e w' => e = .returned (.int .i64 (Lk.seek f head).2) ∧ Lnk w' b (Lk.seek f head).1 ∧ w.grownBy w' (some b) := by
  by_cases ht : Lk.thr head = true
  · obtain ⟨t0, t1⟩ := (Lk.thr_iff _).1 ht
    exact rseek_yes b f head t0 t1 w h ok
  · have e : Lk.seek f head = (f, -1) := by unfold Lk.seek; rw [if_neg ht]
    rw [e]
    refine (rseek_no _ head (by simpa using ht) w).mono ?_
    rintro e w' ⟨rfl, rfl⟩
    exact ⟨rfl, h, World.grownBy.refl _ _⟩

/-- Both sets are the same set of links; below B nothing has turned. -/
def Twin (B b c : Nat) (w w' : World) : Prop := ∃ f, Lnk w' b f ∧ Lnk w' c f ∧ Lk.Ok f ∧ Below B w w'

/-- The act's box. -/
abbrev actO (k x y : Int) : Obj := .cells #[.int .u8 k, .int .i64 x, .int .i64 y] 56
theorem below_alloc {B : Nat} {w : World} (hB : B ≤ w.heap.size) (o : Obj) : Below B w (w.alloc o) := (Below.refl B w).alloc hB o
theorem below_only {B b : Nat} {a w w' : World} (h : Below B a w) (hg : w.grownBy w' (some b)) (hB : B ≤ b) (hs : B ≤ w.heap.size) : Below B a w' := h.trans (only_below_at hg hB hs)

theorem do_push (B b c : Nat) (f : Nat → Int) (k x y : Int) (w : World) (hb : Lnk w b f) (hc : Lnk w c f) (ok : Lk.Ok f) (hne : b ≠ c) (hB : B ≤ b) (hC : B ≤ c) (k0 : 0 ≤ k) (k1 : k ≤ 255) (hk : k % 3 = 0) :
    Calls Try.prog 25 #[.pointer (some ⟨b, 0, none⟩), .pointer (some ⟨c, 0, none⟩), .agg #[.int .u8 k, .int .i64 x, .int .i64 y]] w fun e w' => e = .returned (.bool true) ∧ Twin B b c w w' := by
  have hbl := hb.lt
  have hb1 := hb.alloc (actO k x y)
  have hc1 := hc.alloc (actO k x y)
  go_enter Try.func25, Try.ntmps25
  go_wp2_with fail
  refine (push_any b f x y _ hb1).mono ?_; rintro e w1 ⟨rfl, h1, g1⟩
  have hc2 := hc1.grown g1 (by simpa using fun e => hne e.symm)
  have q1 : w1.cell? ⟨w.heap.size, 1, none⟩ = some (.int .i64 x) := g1.cell (a := ⟨w.heap.size, 1, none⟩) (World.cell?_alloc_new _ _ _ _) (by simp; omega)
  have q2 : w1.cell? ⟨w.heap.size, 2, none⟩ = some (.int .i64 y) := g1.cell (a := ⟨w.heap.size, 2, none⟩) (World.cell?_alloc_new _ _ _ _) (by simp; omega)
  go_wp2_with fail
  refine (rpush_any c f x y _ hc2).mono ?_; rintro e w2 ⟨rfl, h2, g2⟩
  go_wp2
  go_ret
  have s1 := g1.size
  simp only [World.size_alloc] at s1
  exact ⟨rfl, _, h1.grown g2 (by simpa using hne), h2, ok.push _ _, below_only (below_only (below_alloc (by omega) _) g1 hB (by simp; omega)) g2 hC (by omega)⟩

set_option maxHeartbeats 1000000 in
theorem do_seek (B b c : Nat) (f : Nat → Int) (k x y : Int) (w : World) (hb : Lnk w b f) (hc : Lnk w c f) (ok : Lk.Ok f) (hne : b ≠ c) (hB : B ≤ b) (hC : B ≤ c) (k0 : 0 ≤ k) (k1 : k ≤ 255) (hk : k % 3 = 1) :
    Calls Try.prog 25 #[.pointer (some ⟨b, 0, none⟩), .pointer (some ⟨c, 0, none⟩), .agg #[.int .u8 k, .int .i64 x, .int .i64 y]] w fun e w' => e = .returned (.bool true) ∧ Twin B b c w w' := by
  have hbl := hb.lt
  have hcl := hc.lt
  have hb1 := (hb.alloc (actO k x y)).drew
  have hc1 := (hc.alloc (actO k x y)).drew
  have hne' : some c ≠ some b := by simpa using fun e => hne e.symm
  have hne2 : some b ≠ some c := by simpa using hne
  have nb : some w.heap.size ≠ some b := by simp; omega
  have nc : some w.heap.size ≠ some c := by simp; omega
  go_enter Try.func25, Try.ntmps25
  go_wp2_with fail
  go_region_held3 (fun w' => w'.cell? ⟨w.heap.size, 1, none⟩ = some (.int .i64 x)) (first | assumption | go_keep | (refine ⟨?_, ?_⟩ <;> first | assumption | go_keep)) (first | (go_at_call 29; refine (seek_any b f x _ hb1 ok).mono ?_; rintro e w1 ⟨rfl, h1, g1⟩; have hc2 := hc1.grown g1 hne'; have p1 : w1.cell? ⟨w.heap.size, 1, none⟩ = some (.int .i64 x) := g1.cell (a := ⟨w.heap.size, 1, none⟩) (World.cell?_alloc_new w _ _ _) nb; have p2 : w1.cell? ⟨w.heap.size, 2, none⟩ = some (.int .i64 y) := g1.cell (a := ⟨w.heap.size, 2, none⟩) (World.cell?_alloc_new w _ _ _) nb) | (go_at_call 40; refine (rseek_any c f x _ hc2 ok).mono ?_; rintro e w2 ⟨rfl, h2, g2⟩; have r1 : w2.cell? ⟨w.heap.size, 1, none⟩ = some (.int .i64 x) := g2.cell (a := ⟨w.heap.size, 1, none⟩) p1 nc; have r2 : w2.cell? ⟨w.heap.size, 2, none⟩ = some (.int .i64 y) := g2.cell (a := ⟨w.heap.size, 2, none⟩) p2 nc))
  go_wp2
  go_ret
  have s1 := g1.size
  simp only [World.size_drew, World.size_alloc] at s1
  exact ⟨rfl, _, h1.grown g2 hne2, h2, ok.seek x, below_only (below_only (below_alloc (by omega) _).drew g1 hB (by simp; omega)) g2 hC (by omega)⟩

set_option maxHeartbeats 1000000 in
theorem do_cut (B b c : Nat) (f : Nat → Int) (k x y : Int) (w : World) (hb : Lnk w b f) (hc : Lnk w c f) (ok : Lk.Ok f) (hne : b ≠ c) (hB : B ≤ b) (hC : B ≤ c) (k0 : 0 ≤ k) (k1 : k ≤ 255) (hk : k % 3 = 2) :
    Calls Try.prog 25 #[.pointer (some ⟨b, 0, none⟩), .pointer (some ⟨c, 0, none⟩), .agg #[.int .u8 k, .int .i64 x, .int .i64 y]] w fun e w' => e = .returned (.bool true) ∧ Twin B b c w w' := by
  have hbl := hb.lt
  have hcl := hc.lt
  have hb1 := (hb.alloc (actO k x y)).drew
  have hc1 := (hc.alloc (actO k x y)).drew
  have hne' : some c ≠ some b := by simpa using fun e => hne e.symm
  have hne2 : some b ≠ some c := by simpa using hne
  have nb : some w.heap.size ≠ some b := by simp; omega
  have nc : some w.heap.size ≠ some c := by simp; omega
  go_enter Try.func25, Try.ntmps25
  go_wp2_with fail
  go_region_held3 (fun w' => w'.cell? ⟨w.heap.size, 1, none⟩ = some (.int .i64 x) ∧ w'.cell? ⟨w.heap.size, 2, none⟩ = some (.int .i64 y)) (first | assumption | go_keep | (refine ⟨?_, ?_⟩ <;> first | assumption | go_keep)) (first | (go_at_call 30; refine (cut_any b f x y _ hb1 ok).mono ?_; rintro e w1 ⟨rfl, h1, g1⟩; have hc2 := hc1.grown g1 hne'; have p1 : w1.cell? ⟨w.heap.size, 1, none⟩ = some (.int .i64 x) := g1.cell (a := ⟨w.heap.size, 1, none⟩) (World.cell?_alloc_new w _ _ _) nb; have p2 : w1.cell? ⟨w.heap.size, 2, none⟩ = some (.int .i64 y) := g1.cell (a := ⟨w.heap.size, 2, none⟩) (World.cell?_alloc_new w _ _ _) nb) | (go_at_call 41; refine (rcut_any c f x y _ hc2 ok).mono ?_; rintro e w2 ⟨rfl, h2, g2⟩; have r1 : w2.cell? ⟨w.heap.size, 1, none⟩ = some (.int .i64 x) := g2.cell (a := ⟨w.heap.size, 1, none⟩) p1 nc; have r2 : w2.cell? ⟨w.heap.size, 2, none⟩ = some (.int .i64 y) := g2.cell (a := ⟨w.heap.size, 2, none⟩) p2 nc))
  go_wp2
  go_ret
  have s1 := g1.size
  simp only [World.size_drew, World.size_alloc] at s1
  exact ⟨rfl, _, h1.grown g2 hne2, h2, ok.cut x y, below_only (below_only (below_alloc (by omega) _).drew g1 hB (by simp; omega)) g2 hC (by omega)⟩

theorem do_any (B b c : Nat) (f : Nat → Int) (k x y : Int) (w : World) (hb : Lnk w b f) (hc : Lnk w c f) (ok : Lk.Ok f) (hne : b ≠ c) (hB : B ≤ b) (hC : B ≤ c) (k0 : 0 ≤ k) (k1 : k ≤ 255) :
    Calls Try.prog 25 #[.pointer (some ⟨b, 0, none⟩), .pointer (some ⟨c, 0, none⟩), .agg #[.int .u8 k, .int .i64 x, .int .i64 y]] w fun e w' => e = .returned (.bool true) ∧ Twin B b c w w' := by
  rcases (show k % 3 = 0 ∨ k % 3 = 1 ∨ k % 3 = 2 from by omega) with h | h | h
  · exact do_push B b c f k x y w hb hc ok hne hB hC k0 k1 h
  · exact do_seek B b c f k x y w hb hc ok hne hB hC k0 k1 h
  · exact do_cut B b c f k x y w hb hc ok hne hB hC k0 k1 h
end Go.Proofs.Ytllicaibgjjidaa
