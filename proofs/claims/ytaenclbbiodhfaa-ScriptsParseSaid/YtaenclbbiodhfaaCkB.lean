import Derived.Test.YtaenclbbiodhfaaCkA
namespace Go.Proofs.Ytaenclbbiodhfaa
open Go.RowKit

/-- Numbers as cells. -/
def us (l : List Nat) : List Value := l.map fun (n : Nat) => .int .u64 (n : Int)
theorem us_len (l : List Nat) : (us l).length = l.length := by simp [us]
theorem us_one (l : List Nat) : ∀ u ∈ us l, u.oneCell' = true := by intro u hu; simp [us] at hu; obtain ⟨n, _, rfl⟩ := hu; rfl
/-- A clock behind a pointer. -/
structure Clk (w : World) (b : Nat) (A : Option Addr) (cap now most : Nat) (ds : List Nat) : Prop where
  c0 : w.cell? ⟨b, 0, none⟩ = some (.int .u64 now)
  c1 : w.cell? ⟨b, 1, none⟩ = some (.slice A ds.length cap)
  c2 : w.cell? ⟨b, 2, none⟩ = some (.int .u64 most)
  free : ∀ i, w.frozen? ⟨b, i, none⟩ = false
  sl : Sl w 0 1 A ds.length cap (us ds)
  nb : ¬ blk A b
  unow : U now
  umost : U most
  uds : ∀ d ∈ ds, U d
section
variable {w w' : World} {b cap now most : Nat} {A : Option Addr} {ds : List Nat} {S : Nat → Prop}
theorem Clk.lt (h : Clk w b A cap now most ds) : b < w.heap.size := World.block_lt_of_cell? w _ h.c0
theorem Clk.frm (h : Clk w b A cap now most ds) (k : Frm w w' S) (hb : ¬ S b) (hA : ∀ k, blk A k → ¬ S k) : Clk w' b A cap now most ds :=
  ⟨k.cell h.c0 hb, k.cell h.c1 hb, k.cell h.c2 hb, fun i => (k.frozen (p := ⟨b, i, none⟩) h.lt hb).trans (h.free i), h.sl.frm k hA, h.nb, h.unow, h.umost, h.uds⟩
theorem Clk.new_ (h : Clk w b A cap now most ds) (k : Frm w w' fun _ => False) : Clk w' b A cap now most ds := h.frm k id fun _ _ => id
theorem Clk.tick (h : Clk w b A cap now most ds) (n : Nat) : Clk (w.setCell ⟨b, 0, none⟩ (.int .u64 (plus now n : Nat))) b A cap (plus now n) most ds := by
  refine ⟨World.cell?_setCell_same w _ _ h.c0, ?_, ?_, fun i => by rw [World.frozen?_setCell]; exact h.free i, h.sl.setCell (p := ⟨b, 0, none⟩) h.nb _, h.nb, U.plus _ _, h.umost, h.uds⟩
  · rw [World.cell?_setCell_other _ _ _ _ (by intro e; injection e with _ e; cases e)]; exact h.c1
  · rw [World.cell?_setCell_other _ _ _ _ (by intro e; injection e with _ e; cases e)]; exact h.c2
theorem Clk.put (h : Clk w b A cap now most ds) {A' : Option Addr} {cap' : Nat} {ds' : List Nat} (hs : Sl w 0 1 A' ds'.length cap' (us ds')) (nb : ¬ blk A' b) (hu : ∀ d ∈ ds', U d) : Clk (w.setCell ⟨b, 1, none⟩ (.slice A' ds'.length cap')) b A' cap' now most ds' := by
  refine ⟨?_, World.cell?_setCell_same w _ _ h.c1, ?_, fun i => by rw [World.frozen?_setCell]; exact h.free i, hs.setCell (p := ⟨b, 1, none⟩) nb _, nb, h.unow, h.umost, hu⟩
  · rw [World.cell?_setCell_other _ _ _ _ (by intro e; injection e with _ e; cases e)]; exact h.c0
  · rw [World.cell?_setCell_other _ _ _ _ (by intro e; injection e with _ e; cases e)]; exact h.c2
theorem Frm.set1 (w : World) (b i : Nat) (v : Value) : Frm w (w.setCell ⟨b, i, none⟩ v) (fun k => k = b) := (Frm.refl w (fun k => k = b)).setCell (p := ⟨b, i, none⟩) (fun _ => rfl) v
end

theorem tick_any (b cap now most : Nat) (A : Option Addr) (ds : List Nat) (n : Nat) (hn : U n) (w : World) (h : Clk w b A cap now most ds) :
    Calls Try.prog 37 #[.pointer (some ⟨b, 0, none⟩), .int .u64 n] w fun e w' => e = .returned (.tuple #[]) ∧ Clk w' b A cap (plus now n) most ds ∧ Frm w w' (fun k => k = b) := by
  have c0 := h.c0
  have f0 := h.free 0
  have hu := h.unow
  have H := Lib.hid h
  clear h
  go_enter Try.func37, Try.ntmps37
  go_wp2_with (go_at_call 67; refine (plus_any now n hu hn _).mono ?_; rintro e w' ⟨rfl, rfl⟩)
  go_end0
  exact ⟨rfl, H.out.tick n, Frm.set1 _ _ _ _⟩
theorem tick_nil (n : Nat) (w : World) : Calls Try.prog 37 #[.pointer none, .int .u64 n] w fun e w' => e = .returned (.tuple #[]) ∧ w = w' := by
  go_enter Try.func37, Try.ntmps37
  go_wp2
  go_end0
  exact ⟨rfl, rfl⟩
theorem rtick_any (b cap now most : Nat) (A : Option Addr) (ds : List Nat) (n : Nat) (hn : U n) (w : World) (h : Clk w b A cap now most ds) :
    Calls Try.prog 45 #[.pointer (some ⟨b, 0, none⟩), .int .u64 n] w fun e w' => e = .returned (.tuple #[]) ∧ Clk w' b A cap (plus now n) most ds ∧ Frm w w' (fun k => k = b) := by
  have c0 := h.c0
  have f0 := h.free 0
  have hu := h.unow
  have H := Lib.hid h
  clear h
  go_enter Try.func45, Try.ntmps45
  go_wp2_with (go_at_call 68; refine (rplus_any now n hu hn _).mono ?_; rintro e w' ⟨rfl, rfl⟩)
  go_end0
  exact ⟨rfl, H.out.tick n, Frm.set1 _ _ _ _⟩
theorem now_any (b cap now most : Nat) (A : Option Addr) (ds : List Nat) (w : World) (h : Clk w b A cap now most ds) :
    Calls Try.prog 39 #[.pointer (some ⟨b, 0, none⟩)] w fun e w' => e = .returned (.int .u64 now) ∧ w = w' := by
  have c0 := h.c0
  clear h
  go_enter Try.func39, Try.ntmps39
  go_wp2
  go_ret
  exact ⟨rfl, rfl⟩
theorem now_nil (w : World) : Calls Try.prog 39 #[.pointer none] w fun e w' => e = .returned (.int .u64 0) ∧ w = w' := by
  go_enter Try.func39, Try.ntmps39
  go_wp2
  go_ret
  exact ⟨rfl, rfl⟩
theorem left_any (b cap now most : Nat) (A : Option Addr) (ds : List Nat) (w : World) (h : Clk w b A cap now most ds) :
    Calls Try.prog 41 #[.pointer (some ⟨b, 0, none⟩)] w fun e w' => e = .returned (.int .i64 ds.length) ∧ w = w' := by
  have c1 := h.c1
  clear h
  go_enter Try.func41, Try.ntmps41
  go_wp2
  go_ret
  exact ⟨rfl, rfl⟩
theorem left_nil (w : World) : Calls Try.prog 41 #[.pointer none] w fun e w' => e = .returned (.int .i64 0) ∧ w = w' := by
  go_enter Try.func41, Try.ntmps41
  go_wp2
  go_ret
  exact ⟨rfl, rfl⟩
/-- A deadline. -/
abbrev untV (on : Bool) (at_ : Nat) : Value := .agg #[.bool on, .int .u64 at_]
theorem after_any (b cap now most : Nat) (A : Option Addr) (ds : List Nat) (n : Nat) (hn : U n) (w : World) (h : Clk w b A cap now most ds) :
    Calls Try.prog 38 #[.pointer (some ⟨b, 0, none⟩), .int .u64 n] w fun e w' => e = .returned (untV true (plus now n)) ∧ Frm w w' fun _ => False := by
  have c0 := h.c0
  have hu := h.unow
  have hlt := h.lt
  clear h
  go_enter Try.func38, Try.ntmps38
  go_wp2_with (go_at_call 67; refine (plus_any now n hu hn _).mono ?_; rintro e w' ⟨rfl, rfl⟩)
  refine bodyPost_ret (v := untV true (plus now n)) (by simp [untV, results, Try.results38, go_sem]) rfl ⟨rfl, ?_⟩
  exact (Frm.refl _ _).alloc _
theorem after_nil (n : Nat) (w : World) : Calls Try.prog 38 #[.pointer none, .int .u64 n] w fun e w' => e = .returned (untV false 0) ∧ Frm w w' fun _ => False := by
  go_enter Try.func38, Try.ntmps38
  go_wp2
  refine bodyPost_ret (v := untV false 0) (by simp [untV, results, Try.results38, go_sem]) rfl ⟨rfl, ?_⟩
  exact (Frm.refl _ _).alloc _
theorem rafter_any (b cap now most : Nat) (A : Option Addr) (ds : List Nat) (n : Nat) (hn : U n) (w : World) (h : Clk w b A cap now most ds) :
    Calls Try.prog 69 #[.pointer (some ⟨b, 0, none⟩), .int .u64 n] w fun e w' => e = .returned (untV true (plus now n)) ∧ Frm w w' fun _ => False := by
  have c0 := h.c0
  have hu := h.unow
  have hlt := h.lt
  clear h
  go_enter Try.func69, Try.ntmps69
  go_wp2_with (go_at_call 68; refine (rplus_any now n hu hn _).mono ?_; rintro e w' ⟨rfl, rfl⟩)
  refine bodyPost_ret (v := untV true (plus now n)) (by simp [untV, results, Try.results69, go_sem]) rfl ⟨rfl, ?_⟩
  exact (Frm.refl _ _).alloc _
/-- Has a deadline come? -/
def comeB (now : Nat) (on : Bool) (at_ : Nat) : Bool := on && decide (at_ ≤ now)
theorem come_any (b cap now most : Nat) (A : Option Addr) (ds : List Nat) (on : Bool) (at_ : Nat) (w : World) (h : Clk w b A cap now most ds) :
    Calls Try.prog 40 #[.pointer (some ⟨b, 0, none⟩), .agg #[.bool on, .int .u64 at_]] w fun e w' => e = .returned (.bool (comeB now on at_)) ∧ Frm w w' fun _ => False := by
  have c0 := h.c0
  have hlt := h.lt
  clear h
  cases on
  · have e1 : comeB now false at_ = false := rfl
    rw [e1]
    clear e1
    go_enter Try.func40, Try.ntmps40
    go_wp2_with fail
    go_quiet (fail)
    go_wp2
    go_ret
    exact ⟨rfl, ((Frm.refl _ _).alloc _).drewN _⟩
  · have e1 : Hid (comeB now true at_ = decide (at_ ≤ now)) := by show _ = _; simp [comeB]
    go_enter Try.func40, Try.ntmps40
    go_wp2_with fail
    go_quiet (fail)
    go_wp2
    go_ret
    rw [e1.out]
    exact ⟨by simp, ((Frm.refl _ _).alloc _).drewN _⟩
theorem come_nil (on : Bool) (at_ : Nat) (w : World) :
    Calls Try.prog 40 #[.pointer none, .agg #[.bool on, .int .u64 at_]] w fun e w' => e = .returned (.bool false) ∧ Frm w w' fun _ => False := by
  go_enter Try.func40, Try.ntmps40
  go_wp2_with fail
  go_quiet (fail)
  go_wp2
  go_ret
  exact ⟨rfl, ((Frm.refl _ _).alloc _).drewN _⟩
theorem rcome_any (b cap now most : Nat) (A : Option Addr) (ds : List Nat) (on : Bool) (at_ : Nat) (w : World) (h : Clk w b A cap now most ds) :
    Calls Try.prog 70 #[.pointer (some ⟨b, 0, none⟩), .agg #[.bool on, .int .u64 at_]] w fun e w' => e = .returned (.bool (comeB now on at_)) ∧ Frm w w' fun _ => False := by
  have c0 := h.c0
  have hlt := h.lt
  clear h
  cases on
  · have e1 : comeB now false at_ = false := rfl
    rw [e1]
    clear e1
    go_enter Try.func70, Try.ntmps70
    go_wp2_with fail
    go_quiet (fail)
    go_wp2
    go_ret
    exact ⟨rfl, ((Frm.refl _ _).alloc _).drewN _⟩
  · have e1 : Hid (comeB now true at_ = decide (at_ ≤ now)) := by show _ = _; simp [comeB]
    go_enter Try.func70, Try.ntmps70
    go_wp2_with fail
    go_quiet (fail)
    go_wp2
    go_ret
    rw [e1.out]
    exact ⟨by simp, ((Frm.refl _ _).alloc _).drewN _⟩
end Go.Proofs.Ytaenclbbiodhfaa
