import Derived.Test.YtajcijocjbakbaaDoorOwE
import Derived.Test.YtajcijocjbakbaaDoorOwF
import Derived.Laws.Pointers
namespace Go.Proofs.YtajcijocjbakbaaDoor
open Go.RowKit

/-! ### a book -/
/-- The mode in which a thing is had. -/
def md (l : List (Th × Value)) (k : Th) : Int := match mget l k with | some (.int _ m) => m | _ => 0
/-- The book in block s, over the map g. -/
structure Bk (w : World) (s : Nat) (g : Option Nat) (l : List (Th × Value)) : Prop where
  cell : w.cell? ⟨s, 0, none⟩ = some (.map g)
  free : w.frozen? ⟨s, 0, none⟩ = false
  nil : g = none → l = []
  map : ∀ b, g = some b → MpS w thV b l
  ne : ∀ b, g = some b → b ≠ s
  vals : ∀ p ∈ l, ∃ m : Int, p.2 = .int .u8 m ∧ 1 ≤ m ∧ m ≤ 3
section
variable {w w' : World} {s : Nat} {g : Option Nat} {l : List (Th × Value)} {S : Nat → Prop}
theorem Bk.lt (h : Bk w s g l) : s < w.heap.size := World.block_lt_of_cell? w _ h.cell
theorem Bk.frm (h : Bk w s g l) (hf : Frm w w' S) (hs : ¬ S s) (hg : ∀ b, g = some b → ¬ S b) : Bk w' s g l :=
  ⟨hf.cell h.cell hs, (hf.frozen (p := ⟨s, 0, none⟩) h.lt hs).trans h.free, h.nil, fun b e => (h.map b e).frm hf (hg b e), h.ne, h.vals⟩
theorem Bk.new_ (h : Bk w s g l) (hf : Frm w w' fun _ => False) : Bk w' s g l := h.frm hf id fun _ _ => id
theorem mget_mem {k : Th} {v : Value} (h : mget l k = some v) : (k, v) ∈ l := by
  unfold mget at h
  cases hf : l.find? (fun p => p.1 = k) with
  | none => rw [hf] at h; cases h
  | some p =>
    rw [hf] at h
    injection h with h
    have h1 := List.mem_of_find?_eq_some hf
    have h2 : p.1 = k := by simpa using List.find?_some hf
    rw [← h2, ← h]
    exact h1
theorem Bk.md_le (h : Bk w s g l) (k : Th) : 0 ≤ md l k ∧ md l k ≤ 3 := by
  unfold md
  cases hm : mget l k with
  | none => exact ⟨by simp, by simp⟩
  | some v =>
    obtain ⟨m, h1, h2, h3⟩ := h.vals _ (mget_mem hm)
    have h1 : v = .int .u8 m := h1
    subst h1
    exact ⟨by show 0 ≤ m; omega, h3⟩
theorem Bk.lookup (h : Bk w s g l) (k : Th) : (Instr.lookup 51 (.map g) (thV k) false).run Tryd.prog w = .ok (.int .u8 (md l k)) w := by
  have hz : (zeroValue 44).run Tryd.prog w = .ok (.int .u8 0) w := by kernel_rfl
  have ht : Tryd.prog.underlying 51 = some (.map 58 44) := by kernel_rfl
  cases g with
  | none =>
    have := h.nil rfl
    subst this
    rcases thL.find w k [] [] rfl with ⟨f1, _⟩ | ⟨j, e0, _, f2, _⟩
    · simp [Instr.lookup, run_underlying ht, thL.check w _ k, f1, hz, Result.andThen, md, mget]
    · simp at f2
  | some b =>
    rw [(h.map b rfl).toK.lookup thL ht hz k]
    unfold md
    cases hm : mget l k with
    | none => rfl
    | some v =>
      obtain ⟨m, h1, h2, h3⟩ := h.vals _ (mget_mem hm)
      have h1 : v = .int .u8 m := h1
      subst h1
      rfl
end
set_option maxRecDepth 100000 in
theorem mode_any (s : Nat) (g : Option Nat) (l : List (Th × Value)) (t f i : Int) (hf0 : 0 ≤ f) (hf1 : f ≤ 65536) (hi0 : 0 ≤ i) (hi1 : i < 8) (w : World) (h : Bk w s g l) :
    Calls Tryd.prog 20 #[.pointer (some ⟨s, 0, none⟩), .int .i64 t, .int .u32 f, .int .i64 i] w fun e w' => e = .returned (.int .u8 (md l (t, f + 4 * i))) ∧ w = w' := by
  have hL : (Instr.lookup 51 (.map g) (.agg #[.int .i64 t, .int .u32 (f + 4 * i)]) false).run Tryd.prog w = .ok (.int .u8 (md l (t, f + 4 * i))) w := h.lookup (t, f + 4 * i)
  have hc := h.cell
  have hbd : ∀ v a, (Instr.build 58 #[(0, Value.int .i64 t), (1, Value.int .u32 v)]).run Tryd.prog a = .ok (.agg #[.int .i64 t, .int .u32 v]) a := fun v a => by kernel_rfl
  have e1 : decide (i < 0) = false := by rw [decide_eq_false_iff_not]; omega
  have e2 : decide ((8 : Int) ≤ i) = false := by rw [decide_eq_false_iff_not]; omega
  obtain ⟨v, hv⟩ : ∃ v, md l (t, f + 4 * i) = v := ⟨_, rfl⟩
  rw [hv] at hL ⊢
  clear h hv
  go_enter Tryd.func20, Tryd.ntmps20
  go_wp2_with fail
  go_ret
  exact ⟨rfl, rfl⟩
set_option maxRecDepth 100000 in
theorem rw_any (s : Nat) (g : Option Nat) (l : List (Th × Value)) (t i : Int) (hi0 : 0 ≤ i) (hi1 : i < 8) (w : World) (h : Bk w s g l) :
    Calls Tryd.prog 13 #[.pointer (some ⟨s, 0, none⟩), .int .i64 t, .int .i64 i] w fun e w' => e = .returned (.int .u8 (md l (t, 1056 + 4 * i))) ∧ w = w' := by
  have hM := mode_any s g l t 1056 i (by omega) (by omega) hi0 hi1 w h
  clear h
  go_enter Tryd.func13, Tryd.ntmps13
  go_wp2_with (go_at_call 20; refine hM.mono ?_; rintro e w' ⟨rfl, rfl⟩)
  go_ret
  exact ⟨rfl, rfl⟩
set_option maxRecDepth 100000 in
theorem mutex_any (s : Nat) (g : Option Nat) (l : List (Th × Value)) (t i : Int) (hi0 : 0 ≤ i) (hi1 : i < 8) (w : World) (h : Bk w s g l) :
    Calls Tryd.prog 12 #[.pointer (some ⟨s, 0, none⟩), .int .i64 t, .int .i64 i] w fun e w' => e = .returned (.bool (md l (t, 1024 + 4 * i) != 0)) ∧ w = w' := by
  have hM := mode_any s g l t 1024 i (by omega) (by omega) hi0 hi1 w h
  clear h
  go_enter Tryd.func12, Tryd.ntmps12
  go_wp2_with (go_at_call 20; refine hM.mono ?_; rintro e w' ⟨rfl, rfl⟩)
  go_ret
  exact ⟨rfl, rfl⟩
/-- 'New'. -/
theorem new_any (w : World) : Calls Tryd.prog 6 #[] w fun e w' => e = .returned (.pointer (some ⟨w.heap.size, 0, none⟩)) ∧ Bk w' w.heap.size none [] ∧ Frm w w' fun _ => False := by
  have hbd : ∀ a, (Instr.build 53 #[]).run Tryd.prog a = .ok (.agg #[.map none]) a := fun a => by kernel_rfl
  go_enter Tryd.func6, Tryd.ntmps6
  go_wp2_with fail
  go_ret
  exact ⟨rfl, ⟨by rw [World.cell?_alloc_new]; rfl, World.frozen?_alloc_new _ _ _ _, fun _ => rfl, fun _ e => by (cases e), fun _ e => by (cases e), fun _ hp => by (cases hp)⟩, (Frm.refl _ _).alloc _⟩
set_option maxRecDepth 100000 in
/-- 'op' of a kind. -/
theorem op_any (k a : Int) (w : World) : Calls Tryd.prog 15 #[.int .u8 k, .int .i64 a] w fun e w' => e = .returned (OpR.V ⟨k, a, 0, -1, false, false, 0⟩) ∧ Frm w w' fun _ => False := by
  have hbd := build34
  go_enter Tryd.func15, Tryd.ntmps15
  go_wp2_with fail
  refine at_body ?_
  intro W' hW'
  have x0 : W'.cell? ⟨w.heap.size, 0, none⟩ = some (.int .u8 k) := by subst hW'; go_simp
  have x1 : W'.cell? ⟨w.heap.size, 1, none⟩ = some (.int .i64 a) := by subst hW'; go_simp
  have x2 : W'.cell? ⟨w.heap.size, 2, none⟩ = some (.int .i64 0) := by subst hW'; go_simp
  have x3 : W'.cell? ⟨w.heap.size, 3, none⟩ = some (.int .i64 (-1)) := by subst hW'; go_simp
  have x4 : W'.cell? ⟨w.heap.size, 4, none⟩ = some (.bool false) := by subst hW'; go_simp
  have x5 : W'.cell? ⟨w.heap.size, 5, none⟩ = some (.bool false) := by subst hW'; go_simp
  have x6 : W'.cell? ⟨w.heap.size, 6, none⟩ = some (.int .i64 0) := by subst hW'; go_simp
  refine bodyPost_ret (v := OpR.V ⟨k, a, 0, -1, false, false, 0⟩) (by simp [results, Tryd.results15, go_sem, x0, x1, x2, x3, x4, x5, x6]) rfl ⟨rfl, ?_⟩
  rw [hW']
  repeat (first | with_reducible refine Frm.drew ?_ | with_reducible refine Frm.alloc ?_ _ | with_reducible refine Frm.setCell ?_ (fun h => absurd h (Nat.lt_irrefl _)) _)
  exact Frm.refl _ _
end Go.Proofs.YtajcijocjbakbaaDoor
