import Derived.Test.YtmjpaaippilioaaDoorSl
import Derived.OwnWalk
import Derived.Laws.IdiomCopy
import Derived.Laws.MakeOwn
namespace Go.Proofs.YtmjpaaippilioaaDoor
open Go.RowKit

section
variable {P : Program} (w : World)
/-! ### copy onto a slice of the call's own -/
theorem run_copy_sl {B : Nat} (dT sT ty e : TypeId) (i : TypeInfo) (size : Nat) (hu : P.underlying dT = some (.slice e)) (hi : P.info? e = some i) (hsize : i.size = size)
    (D : Option Addr) (n c : Nat) (xs : List Value) (h : Sl w B size D n c xs) (j n' c0 : Nat) (D' : Option Addr) (hj : j + n' ≤ n) (hD : 0 < n' → ∀ g o, D = some ⟨g, o, none⟩ → D' = some ⟨g, o + j * size, none⟩)
    (X : Option Addr) (m c' : Nat) (all : List Value) (hr : Rd w w.heap.size size X m all) (h1 : ∀ u ∈ all, u.oneCell' = true) (k : Nat) (hk : k = Nat.min m n') :
    ∃ w', (Builtin.copy_ #[dT, sT] ty #[.slice D' n' c0, .slice X m c']).run P w = .ok (goInt k) w' ∧ Sl w' B size D n c (xs.take (j * size) ++ (all.take (k * size) ++ xs.drop ((j + k) * size))) ∧ Frm w w' (blk D) := by
  have hkm : k ≤ m := hk ▸ Nat.min_le_left _ _
  have hkn : k ≤ n' := hk ▸ Nat.min_le_right _ _
  subst hsize
  have hs0 : ∀ (s : Addr) (vs : List Value), vs.length = k * i.size → (∀ j u, vs[j]? = some u → w.cell? (s.add j) = some u) → (Builtin.firstCells i.size k (.slice (some s) m c')).run P w = .ok vs.toArray w := fun s vs hl hv => run_firstCells_some (P := P) w i.size k s m c' vs hl hv
  by_cases h0 : k * i.size = 0
  · refine ⟨w, ?_, by simpa [h0, Nat.add_mul] using h, Frm.refl _ _⟩
    have hs1 : ∀ s, (Builtin.firstCells i.size k (.slice (some s) m c')).run P w = .ok #[] w := fun s => by simpa using hs0 s [] (by simpa using h0.symm) (by simp)
    have hs2 : (Builtin.firstCells i.size k (.slice none m c')).run P w = .ok #[] w := by simp [Builtin.firstCells]
    cases D' <;> cases X <;> simp [Builtin.copy_, run_underlying hu, Builtin.lenOf, sizeOf, typeInfo, hi, ← hk, hs1, hs2, storeCells]
  · have hall : k * i.size ≤ all.length := by rw [hr.1]; exact Nat.mul_le_mul_right _ hkm
    obtain ⟨g, o, rfl, _, hc⟩ := hr.2 (by omega)
    have hpos : 0 < k := by
      rcases Nat.eq_zero_or_pos k with e | e
      · rw [e] at h0; simp at h0
      · exact e
    have hcap := h.le
    have hjk : (j + k) * i.size ≤ n * i.size := Nat.mul_le_mul_right _ (by omega)
    have hxs := h.len
    have hn : n * i.size ≤ c * i.size := Nat.mul_le_mul_right _ hcap
    rcases h.row with ⟨_, hz⟩ | ⟨dg, dof, rfl, hB, hlt, hcd, hsome, hfr⟩
    · omega
    obtain rfl := hD (by omega) dg dof rfl
    have hl : (all.take (k * i.size)).length = k * i.size := by rw [List.length_take]; omega
    rw [Nat.add_mul] at hjk ⊢
    have hcell : ∀ q, q < (all.take (k * i.size)).length → (w.cell? ⟨dg, dof + j * i.size + 0 + q, none⟩).isSome = true := fun q hq => by rw [Nat.add_zero, Nat.add_assoc]; exact hsome _ (by omega)
    have hst := run_storeCells_cells (P := P) dg (dof + j * i.size) (all.take (k * i.size)) 0 w hcell (fun q _ => by rw [Nat.add_zero, Nat.add_assoc]; exact hfr _) (fun u hu => h1 u (List.mem_of_mem_take hu))
    have hfc := hs0 ⟨g, o, none⟩ (all.take (k * i.size)) hl (fun j u hu => by
      rw [Addr.add_lit]
      rw [List.getElem?_take] at hu
      split at hu
      · exact hc j u hu
      · cases hu)
    simp only [Nat.add_zero] at hst hcell
    have hf := setCells_frm w dg (dof + j * i.size) (all.take (k * i.size))
    have hlt1 : (xs.take (j * i.size)).length = j * i.size := by rw [List.length_take]; omega
    refine ⟨w.setCells dg (dof + j * i.size) (all.take (k * i.size)), ?_, ⟨?_, hcap, h.max, .inr ⟨dg, dof, rfl, hB, Nat.lt_of_lt_of_le hlt hf.size, fun q u hu => ?_, fun q hq => ?_, fun q => by rw [World.frozen?_setCells]; exact hfr q⟩⟩, hf.mono fun q _ hq => (blk_some _ _ _).2 hq⟩
    · simp only [Builtin.copy_, Builtin.lenOf, sizeOf, typeInfo]
      simp [run_underlying hu, hi, ← hk, hfc, hst]
    · rw [List.length_append, List.length_append, hl, hlt1, List.length_drop, h.len]; omega
    · rcases Nat.lt_or_ge q (j * i.size) with hq | hq
      · rw [List.getElem?_append_left (by omega), List.getElem?_take] at hu
        rw [if_pos hq] at hu
        rw [World.cell?_setCells_out _ _ _ _ _ (fun _ _ => by
          left
          show dof + q < dof + j * i.size
          omega)]
        exact hcd q u hu
      · rw [List.getElem?_append_right (by omega), hlt1] at hu
        rcases Nat.lt_or_ge (q - j * i.size) (k * i.size) with hj2 | hj2
        · rw [List.getElem?_append_left (by omega)] at hu
          have := World.cell?_setCells_in dg (all.take (k * i.size)) (dof + j * i.size) w hcell (q - j * i.size) (by omega)
          rw [show dof + j * i.size + (q - j * i.size) = dof + q from by omega] at this
          rw [this, ← hu, List.getElem?_eq_getElem (by omega)]
        · rw [List.getElem?_append_right (by omega), hl, List.getElem?_drop, show j * i.size + k * i.size + (q - j * i.size - k * i.size) = q from by omega] at hu
          rw [World.cell?_setCells_out _ _ _ _ _ (fun _ _ => by
            right
            show dof + j * i.size + (all.take (k * i.size)).length ≤ dof + q
            omega)]
          exact hcd q u hu
    · by_cases hin : j * i.size ≤ q ∧ q - j * i.size < k * i.size
      · have := World.cell?_setCells_in dg (all.take (k * i.size)) (dof + j * i.size) w hcell (q - j * i.size) (by omega)
        rw [show dof + j * i.size + (q - j * i.size) = dof + q from by omega] at this
        rw [this]; rfl
      · rw [World.cell?_setCells_out _ _ _ _ _ (fun _ _ => by
          show dof + q < dof + j * i.size ∨ dof + j * i.size + (all.take (k * i.size)).length ≤ dof + q
          omega)]
        exact hsome q hq
theorem wp_copy_sl {o : Oper} {a : Act} {K : Act → World → Prop} {Q : Exit → Act → World → Prop} (d s : Operand) (dT sT : TypeId)
    (ho : o.op = .call { callee := .builtin .copy, args := #[d, s], argTypes := #[dT, sT] })
    {B : Nat} (e : TypeId) (i : TypeInfo) (size : Nat) (hu : P.underlying dT = some (.slice e)) (hi : P.info? e = some i) (hsize : i.size = size)
    (D : Option Addr) (n c : Nat) (xs : List Value) (h : Sl w B size D n c xs) (j n' c0 : Nat) (D' : Option Addr) (hd : a.eval d = .slice D' n' c0) (hj : j + n' ≤ n) (hD : 0 < n' → ∀ g o, D = some ⟨g, o, none⟩ → D' = some ⟨g, o + j * size, none⟩)
    (X : Option Addr) (m c' : Nat) (all : List Value) (hx : a.eval s = .slice X m c') (hr : Rd w w.heap.size size X m all) (h1 : ∀ u ∈ all, u.oneCell' = true) (k : Nat) (hk : k = Nat.min m n')
    (hK : ∀ w', Sl w' B size D n c (xs.take (j * size) ++ (all.take (k * size) ++ xs.drop ((j + k) * size))) → Frm w w' (blk D) → K (a.put o.dst (goInt k)) w') : o.wp P a w K Q := by
  obtain ⟨w', hrun, h2, h3⟩ := run_copy_sl (P := P) w dT sT o.type e i size hu hi hsize D n c xs h j n' c0 D' hj hD X m c' all hr h1 k hk
  unfold Oper.wp execOp
  simp only [ho, resolve, invoke, builtin, Sem.run_bind, Sem.run_pure, Result.andThen_ok, List.map_toArray, List.map_cons, List.map_nil, hd, hx, hrun]
  exact hK w' h2 h3
theorem wpList_copy_sl {ops : Array Oper} {rest : List Oper} {o : Oper} {a : Act} {Q : Exit → Act → World → Prop} (hgd : o.guard = none) (d s : Operand) (dT sT : TypeId)
    (ho : o.op = .call { callee := .builtin .copy, args := #[d, s], argTypes := #[dT, sT] })
    {B : Nat} (e : TypeId) (i : TypeInfo) (size : Nat) (hu : P.underlying dT = some (.slice e)) (hi : P.info? e = some i) (hsize : i.size = size)
    (D : Option Addr) (n c : Nat) (xs : List Value) (h : Sl w B size D n c xs) (j n' c0 : Nat) (D' : Option Addr) (hd : a.eval d = .slice D' n' c0) (hj : j + n' ≤ n) (hD : 0 < n' → ∀ g o, D = some ⟨g, o, none⟩ → D' = some ⟨g, o + j * size, none⟩)
    (X : Option Addr) (m c' : Nat) (all : List Value) (hx : a.eval s = .slice X m c') (hr : Rd w w.heap.size size X m all) (h1 : ∀ u ∈ all, u.oneCell' = true) (k : Nat) (hk : k = Nat.min m n')
    (hK : ∀ w', Sl w' B size D n c (xs.take (j * size) ++ (all.take (k * size) ++ xs.drop ((j + k) * size))) → Frm w w' (blk D) → wpList P ops Q rest (a.put o.dst (goInt k)) w') : wpList P ops Q (o :: rest) a w :=
  wpList_plain hgd fun _ hK' => wp_copy_sl w d s dT sT ho e i size hu hi hsize D n c xs h j n' c0 D' hd hj hD X m c' all hx hr h1 k hk fun w' r1 r2 => hK' _ _ (hK w' r1 r2)
theorem step_copy_sl {ops : Array Oper} {o : Oper} {a : Act} {K : Act → World → Prop} {Q : Exit → Act → World → Prop} {E : Prop} (hgd : o.guard = none) (d s : Operand) (dT sT : TypeId)
    (ho : o.op = .call { callee := .builtin .copy, args := #[d, s], argTypes := #[dT, sT] })
    {B : Nat} (e : TypeId) (i : TypeInfo) (size : Nat) (hu : P.underlying dT = some (.slice e)) (hi : P.info? e = some i) (hsize : i.size = size)
    (D : Option Addr) (n c : Nat) (xs : List Value) (h : Sl w B size D n c xs) (j n' c0 : Nat) (D' : Option Addr) (hd : a.eval d = .slice D' n' c0) (hj : j + n' ≤ n) (hD : 0 < n' → ∀ g o, D = some ⟨g, o, none⟩ → D' = some ⟨g, o + j * size, none⟩)
    (X : Option Addr) (m c' : Nat) (all : List Value) (hx : a.eval s = .slice X m c') (hr : Rd w w.heap.size size X m all) (h1 : ∀ u ∈ all, u.oneCell' = true) (k : Nat) (hk : k = Nat.min m n')
    (hK : ∀ w', Sl w' B size D n c (xs.take (j * size) ++ (all.take (k * size) ++ xs.drop ((j + k) * size))) → Frm w w' (blk D) → K (a.put o.dst (goInt k)) w') :
    if Region.wanted o (yielded ops a.tmps) = true then Oper.wp P o a w K Q else E := by
  have hw : Region.wanted o (yielded ops a.tmps) = true := by simp [Region.wanted, hgd]
  rw [if_pos hw]
  exact wp_copy_sl w d s dT sT ho e i size hu hi hsize D n c xs h j n' c0 D' hd hj hD X m c' all hx hr h1 k hk hK

/-! ### make -/
theorem wpList_make_sl {ops : Array Oper} {rest : List Oper} {o : Oper} {a : Act} {Q : Exit → Act → World → Prop}
    (hg : o.guard = none) (l c : Operand) (t : TypeId) (hop : o.op = Op.makeSlice t l c)
    (e : TypeId) (i : TypeInfo) (z : Value) (size : Nat) (h1 : P.underlying t = some (.slice e)) (h2 : P.info? e = some i) (h3 : i.zero = some z) (h4 : i.size = size)
    (kl kc : IntKind) (L C : Int) (n : Nat) (hl : a.eval l = .int kl L) (hc : a.eval c = .int kc C) (hL : L = (n : Int)) (hC : C = (n : Int)) (b2 : i.bytes * n ≤ 281474976710656) (b3 : n ≤ maxLen)
    (hK : ∀ w', Sl w' w.heap.size size (some ⟨w.heap.size, 0, none⟩) n n (madeCells z.cells (n * size)).toList → (Frm w w' fun _ => False) → w.heap.size < w'.heap.size → wpList P ops Q rest (a.put o.dst (.slice (some ⟨w.heap.size, 0, none⟩) n n)) w') :
    wpList P ops Q (o :: rest) a w :=
  wpList_make_full w hg l c t hop w.heap.size e i z size h1 h2 h3 h4 kl kc L C n hl hc hL hC b2 b3 (Nat.le_refl _) fun w' r1 r2 => by
    refine hK w' (Sl.of_owns r1) (Frm.of_new r2 _) ?_
    obtain ⟨_, h | ⟨g, _, _, hv, _, hh, _⟩⟩ := r1
    · cases h.1
    · injection hv with hv _ _
      injection hv with hv
      injection hv with hv
      subst hv
      exact (Array.getElem?_eq_some_iff.1 hh).1
end

/-! ### what is new stays new -/
section
variable {w w1 w2 : World} {size n : Nat} {A : Option Addr} {xs : List Value}
theorem Frm.fresh {S : Nat → Prop} (h : Frm w w1 fun _ => False) (k : Frm w1 w2 S) (hS : ∀ j, S j → w.heap.size ≤ j) : Frm w w2 fun _ => False :=
  ⟨k.os.trans h.os, k.tape.trans h.tape, k.output.trans h.output, Nat.le_trans h.size k.size, fun j hj _ => (k.block j (Nat.lt_of_lt_of_le hj h.size) (fun hb => by have := hS j hb; omega)).trans (h.block j hj id)⟩
theorem Frm.all {S : Nat → Prop} (h : Frm w w1 S) {S' : Nat → Prop} (k : Frm w1 w2 S') (hS : ∀ j, S' j → S j ∨ w.heap.size ≤ j) : Frm w w2 S :=
  h.trans k fun j hj hs => (hS j hs).resolve_right (by omega)
theorem Rd.new_ (h : Rd w w.heap.size size A n xs) (k : Frm w w1 fun _ => False) : Rd w1 w1.heap.size size A n xs := (h.below (k.below (B := w.heap.size) (fun _ _ => id) (Nat.le_refl _))).more k.size
theorem Rd.frm {S : Nat → Prop} (h : Rd w w.heap.size size A n xs) (k : Frm w w1 S) (hA : ∀ j, blk A j → ¬ S j) : Rd w1 w1.heap.size size A n xs :=
  ⟨h.1, fun hn => by
    obtain ⟨g, off, e, hb, hc⟩ := h.2 hn
    refine ⟨g, off, e, Nat.lt_of_lt_of_le hb k.size, fun j u hu => ?_⟩
    exact k.cell (hc j u hu) (hA g (by rw [e]; exact (blk_some _ _ _).2 rfl))⟩
theorem blk_ge {g : Nat} : ∀ j, blk (some ⟨g, 0, none⟩) j → g ≤ j := fun j hj => by rw [blk_some] at hj; omega
end
end Go.Proofs.YtmjpaaippilioaaDoor
