import Derived.Test.YtajcijocjbakbaaRows
import Derived.Test.YtajcijocjbakbaaGrw
import Derived.Test.YtajcijocjbakbaaSlc
import Derived.Test.YtajcijocjbakbaaOpr
import Derived.WalkKit
import Derived.WalkSpells
import Derived.WalkLawsBesides
import Derived.Laws.StructEq
import Derived.LoopTactic
import Derived.Deep.RegionLaw
import Derived.Deep.CutRange
namespace Go.Proofs.Ytajcijocjbakbaa
open Go.RowKit

/-- An entry (the program's and the document's lie alike). -/
structure En where
  t : Int
  k : Int
  tok : Int
def En.V (e : En) : List Value := [.int .i64 e.t, .int .u32 e.k, .int .u64 e.tok]
abbrev En.val (e : En) : Value := .agg #[.int .i64 e.t, .int .u32 e.k, .int .u64 e.tok]
theorem En.len (e : En) : e.V.length = 3 := rfl
theorem En.one (e : En) : ∀ u ∈ e.V, u.oneCell' = true := by intro u hu; simp [En.V] at hu; rcases hu with rfl | rfl | rfl <;> rfl
/-- Entries as cells. -/
def ens (l : List En) : List Value := l.flatMap En.V
theorem ens_len (l : List En) : (ens l).length = l.length * 3 := flat_len En.V 3 En.len l
theorem ens_snoc (l : List En) (e : En) : ens (l ++ [e]) = ens l ++ e.V := by simp [ens]
theorem ens_one (l : List En) : ∀ u ∈ ens l, u.oneCell' = true := by
  intro u hu
  obtain ⟨e, _, h⟩ := List.mem_flatMap.1 hu
  exact e.one u h
theorem info43 : (Try.prog.info? 43).map (fun i => (i.zero, i.size, i.bytes)) = some (some (.agg #[.int .i64 0, .int .u32 0, .int .u64 0]), 3, 24) := by kernel_rfl
theorem info101 : (Try.prog.info? 101).map (fun i => (i.zero, i.size, i.bytes)) = some (some (.agg #[.int .i64 0, .int .u32 0, .int .u64 0]), 3, 24) := by kernel_rfl
theorem Rd.fresh_at (w : World) (t : TypeId) (c : Array Value) {size n g : Nat} (hn : c.size = n * size) (hg : g = w.heap.size) : Rd (w.alloc (.cells c t)) (w.alloc (.cells c t)).heap.size size (some ⟨g, 0, none⟩) n c.toList := by subst hg; exact Rd.fresh w t c hn
theorem at_world' {P : Program} {c : Code} {Q : Exit → Act → World → Prop} {a : Act} {w : World} (h : ∀ W, W = w → c.wp P Q a W) : c.wp P Q a w := h w rfl
/-- What is read of a slice of entries. -/
theorem Rd.ens {w : World} {B n : Nat} {A : Option Addr} {xs : List En} (h : Rd w B 3 A n (ens xs)) : n = xs.length ∧ (0 < n → ∃ g off, A = some ⟨g, off, none⟩ ∧ g < B ∧ ∀ i (hi : i < xs.length), w.cell? ⟨g, off + i * 3, none⟩ = some (.int .i64 xs[i].t) ∧ w.cell? ⟨g, off + i * 3 + 1, none⟩ = some (.int .u32 xs[i].k) ∧ w.cell? ⟨g, off + i * 3 + 2, none⟩ = some (.int .u64 xs[i].tok)) := by
  obtain ⟨h1, h2⟩ := Rd.rows En.len (by decide) h
  refine ⟨h1, fun hp => ?_⟩
  obtain ⟨g, off, e, hg, hc⟩ := h2 hp
  exact ⟨g, off, e, hg, fun i hi => ⟨hc i hi 0 _ rfl, hc i hi 1 _ rfl, hc i hi 2 _ rfl⟩⟩
theorem clip_any (A : Option Addr) (n c : Nat) (h : n ≤ c) (w : World) : Calls Try.prog 31 #[.slice A n c] w fun e w' => e = .returned (.slice A n n) ∧ w = w' := by
  have i0 : (0 : Int) ≤ (n : Int) := by omega
  have i1 : (n : Int) ≤ (c : Int) := by omega
  go_enter Try.func31, Try.ntmps31
  go_wp2
  go_ret
  exact ⟨rfl, rfl⟩
/-- Of entries those of some places. -/
def sel (so : Nat → Bool) (xs : List En) (k : Nat) : List En := ((xs.take k).zipIdx.filter fun p => so p.2).map (·.1)
theorem sel_zero (so : Nat → Bool) (xs : List En) : sel so xs 0 = [] := rfl
theorem sel_succ (so : Nat → Bool) (xs : List En) (k : Nat) (h : k < xs.length) : sel so xs (k + 1) = sel so xs k ++ if so k then [xs[k]] else [] := by
  unfold sel
  rw [List.take_succ_eq_append_getElem h, List.zipIdx_append, List.filter_append, List.map_append]
  congr 1
  have : (xs.take k).length = k := by rw [List.length_take]; omega
  simp [this, List.filter_cons]
  split <;> simp
theorem sel_le (so : Nat → Bool) (xs : List En) (k : Nat) : (sel so xs k).length ≤ k := by
  unfold sel
  rw [List.length_map]
  refine Nat.le_trans (List.length_filter_le _ _) ?_
  rw [List.length_zipIdx, List.length_take]
  omega
end Go.Proofs.Ytajcijocjbakbaa
