import Derived.Test.YtajcijocjbakbaaTbA
namespace Go.Proofs.Ytajcijocjbakbaa
open Go.RowKit

/-! ### a set of tables -/
/-- A bucket: its timer, its queue. -/
structure Bk where
  at_ : Int
  fired : Int
  hd : Hd
  q : List En
def Bk.V (b : Bk) : List Value := [.int .u64 b.at_, .int .u64 b.fired, b.hd.V]
theorem Bk.len (b : Bk) : b.V.length = 3 := rfl
def bkc (l : List Bk) : List Value := l.flatMap Bk.V
/-- A table: its bits, its block, its buckets. -/
structure Tb where
  d : Int
  g : Nat
  bs : List Bk
abbrev Tb.V (t : Tb) : Value := .slice (some ⟨t.g, 0, none⟩) t.bs.length t.bs.length
def tget (ts : List Tb) (d : Int) : Option Tb := ts.find? fun t => t.d = d
def tval : Option Tb → Value
  | some t => t.V
  | none => .slice none 0 0
/-- The blocks of a set. -/
def TOwn (s b : Nat) (ts : List Tb) (j : Nat) : Prop := j = s ∨ j = b ∨ (∃ t ∈ ts, j = t.g) ∨ ∃ t ∈ ts, ∃ k ∈ t.bs, blk k.hd.A j
structure TSet (w : World) (B s b : Nat) (ts : List Tb) : Prop where
  ptr : w.cell? ⟨s, 0, none⟩ = some (.map (some b))
  map : MpK w (fun k : Int => Value.int .i64 k) b (ts.map fun t => (t.d, t.V))
  low : B ≤ s ∧ B ≤ b ∧ s ≠ b
  tb : ∀ t ∈ ts, Sl w B 3 (some ⟨t.g, 0, none⟩) t.bs.length t.bs.length (bkc t.bs) ∧ t.bs.length = sz t.d ∧ tbl t.d = true ∧ t.g ≠ s ∧ t.g ≠ b
  gs : (ts.map (·.g)).Nodup
  qs : ∀ t ∈ ts, ∀ k ∈ t.bs, Sl w B 3 k.hd.A k.hd.n k.hd.c (ens k.q) ∧ ∀ j, blk k.hd.A j → j ≠ s ∧ j ≠ b ∧ ∀ t' ∈ ts, j ≠ t'.g
  ok : ∀ t ∈ ts, ∀ k ∈ t.bs, ∀ x ∈ k.q, EnOk x
section
variable {w w' : World} {B s b : Nat} {ts : List Tb} {S : Nat → Prop}
theorem TSet.frm (h : TSet w B s b ts) (hf : Frm w w' S) (hS : ∀ j, TOwn s b ts j → ¬ S j) : TSet w' B s b ts :=
  ⟨hf.cell h.ptr (hS s (.inl rfl)), h.map.frm hf (hS b (.inr (.inl rfl))), h.low,
   fun t ht => ⟨(h.tb t ht).1.frm hf fun k hk => by rw [blk_some] at hk; subst hk; exact hS _ (.inr (.inr (.inl ⟨t, ht, rfl⟩))), (h.tb t ht).2⟩, h.gs,
   fun t ht k hk => ⟨(h.qs t ht k hk).1.frm hf fun j hj => hS j (.inr (.inr (.inr ⟨t, ht, k, hk, hj⟩))), (h.qs t ht k hk).2⟩, h.ok⟩
theorem TSet.new_ (h : TSet w B s b ts) (hf : Frm w w' fun _ => False) : TSet w' B s b ts := h.frm hf fun _ _ => id
theorem TSet.lt (h : TSet w B s b ts) {j : Nat} (hj : TOwn s b ts j) : B ≤ j ∧ j < w.heap.size := by
  rcases hj with rfl | rfl | ⟨t, ht, rfl⟩ | ⟨t, ht, k, hk, hj⟩
  · exact ⟨h.low.1, World.block_lt_of_cell? w _ h.ptr⟩
  · exact ⟨h.low.2.1, h.map.lt⟩
  · exact (h.tb t ht).1.ge ((blk_some _ _ _).2 rfl)
  · exact (h.qs t ht k hk).1.ge hj
theorem mget_ts (d : Int) : (mget (ts.map fun t => (t.d, t.V)) d).getD (.slice none 0 0) = tval (tget ts d) := by
  unfold mget tget
  induction ts with
  | nil => rfl
  | cons t r ih =>
    by_cases h : t.d = d
    · rw [List.map_cons, List.find?_cons_of_pos (by simpa using h), List.find?_cons_of_pos (by simpa using h)]
      rfl
    · rw [List.map_cons, List.find?_cons_of_neg (by simpa using h), List.find?_cons_of_neg (by simpa using h)]
      exact ih
set_option maxRecDepth 100000 in
theorem TSet.lookup (h : TSet w B s b ts) (d : Int) : (Instr.lookup 59 (.map (some b)) (.int .i64 d) false).run Try.prog w = .ok (tval (tget ts d)) w := by
  rw [← mget_ts]
  exact h.map.lookup (intL (P := Try.prog) (K := 3) Try.underlying3) Try.underlying59 (z := .slice none 0 0) (by rfl) d
theorem tget_some {d : Int} {t : Tb} (h : tget ts d = some t) : t ∈ ts ∧ t.d = d := ⟨List.mem_of_find?_eq_some h, by simpa using List.find?_some h⟩
theorem TSet.pos (h : TSet w B s b ts) {d : Int} {t : Tb} (ht : tget ts d = some t) : 4 ≤ t.bs.length ∧ t.bs.length ≤ 256 := by
  obtain ⟨hm, _⟩ := tget_some ht
  obtain ⟨_, h1, h2, _⟩ := h.tb t hm
  rw [h1]
  exact ⟨sz_ge h2, sz_le _⟩
end
set_option maxRecDepth 100000 in
theorem has_any (B s b : Nat) (ts : List Tb) (d : Int) (w : World) (h : TSet w B s b ts) :
    Calls Try.prog 10 #[.pointer (some ⟨s, 0, none⟩), .int .i64 d] w fun e w' => e = .returned (.bool (tget ts d).isSome) ∧ w = w' := by
  have h1 := h.ptr
  have hl := h.lookup d
  cases ht : tget ts d with
  | none =>
    rw [ht] at hl
    have h2 : (Instr.lookup 59 (.map (some b)) (.int .i64 d) false).run Try.prog w = .ok (.slice none 0 0) w := hl
    clear h ht hl
    go_enter Try.func10, Try.ntmps10
    go_wp2
    go_ret
    exact ⟨rfl, rfl⟩
  | some t =>
    obtain ⟨p1, p2⟩ := h.pos ht
    rw [ht] at hl
    obtain ⟨n, hn⟩ : ∃ n, t.bs.length = n := ⟨_, rfl⟩
    have h2 : (Instr.lookup 59 (.map (some b)) (.int .i64 d) false).run Try.prog w = .ok (.slice (some ⟨t.g, 0, none⟩) n n) w := by rw [← hn]; exact hl
    have n0 : (0 : Int) < (n : Int) := by omega
    have n1 : decide ((0 : Int) < (n : Int)) = true := by rw [decide_eq_true_eq]; exact n0
    clear h ht p1 p2 hn hl
    go_enter Try.func10, Try.ntmps10
    go_wp2
    go_ret
    exact ⟨by simp; omega, rfl⟩
set_option maxRecDepth 100000 in
theorem has_nil (d : Int) (w : World) : Calls Try.prog 10 #[.pointer none, .int .i64 d] w fun e w' => e = .returned (.bool false) ∧ w = w' := by
  go_enter Try.func10, Try.ntmps10
  go_wp2
  go_ret
  exact ⟨rfl, rfl⟩
end Go.Proofs.Ytajcijocjbakbaa
