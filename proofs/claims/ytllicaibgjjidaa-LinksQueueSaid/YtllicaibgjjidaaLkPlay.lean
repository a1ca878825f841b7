/-
  'laybylaw05.LinksPlay': whatever acts are handed in, the law returns true, and the slice of acts reads behind the call as it read before. No condition.
-/
import Derived.Test.YtllicaibgjjidaaLkH
import Derived.Test.YtllicaibgjjidaaOpn
import Derived.ProofKit
import Derived.OpenShut
import Derived.ChangeOld
namespace Go.Proofs.Ytllicaibgjjidaa
open Go.ChangeShapes Go.WideShapes Go.ChangeAt Go.RowKit

theorem own : ownKnob Try.prog.godebug = none := by kernel_rfl
theorem laidOut : laidOutB Try.prog = true := by kernel_rfl
theorem cells56 : Try.prog.cellsOf 56 = 3 := by kernel_rfl

/-- The number in a cell. -/
def numOf : Option Value → Int | some (.int _ n) => n | _ => 0
theorem add_cell {W : World} {a : Addr} {n : Nat} {v : Value} (h : W.cell? (a.add n) = some v) : a.add n = ⟨a.block, a.off + n, none⟩ := by
  have hs := World.cell?_spot h
  cases hx : a.add n with
  | mk b o sp =>
    have hb : (a.add n).block = a.block := by unfold Addr.add; split <;> rfl
    have ho : (a.add n).off = a.off + n := by
      unfold Addr.add
      split
      · rename_i h0; have : n = 0 := by simpa using h0
        subst this; rfl
      · rfl
    rw [hx] at hs hb ho
    simp only at hs hb ho
    subst hs; subst hb; subst ho
    rfl

/-- An argument of acts, opened. -/
theorem open_acts {H : Type} {enc : TypeId × Value → H} {W : World} {base : Nat} {v : Value} {d : DataW H} {p : List MemPlace} {spare : Nat → Bool} {held : Bool}
    (hv : Value.okWide Try.prog W .any base 45 v) (h : DataW.Trod enc Try.prog W 0 spare held 45 v d p) :
    ∃ A len cap K X Y, v = .slice A len cap ∧ len ≤ 9223372036854775807 ∧ Acts W A len K X Y := by
  obtain ⟨a0, len0, cap0, rfl⟩ := okWide_slice Try.underlying45 hv
  obtain ⟨fuel, hf⟩ := h
  rcases open_slice_fields Try.underlying45 Try.underlying56 (by kernel_rfl) (by kernel_rfl) hf with ⟨hcs, _⟩ | ⟨a, len, cap, m, D, Pl, hcs, _, hl, hm, hmm, _, hi⟩
  · simp [Value.cells] at hcs
    obtain ⟨rfl, rfl, rfl⟩ := hcs
    exact ⟨none, 0, 0, fun _ => 0, fun _ => 0, fun _ => 0, rfl, by omega, fun h => by omega⟩
  · simp [Value.cells] at hcs
    obtain ⟨rfl, rfl, rfl⟩ := hcs
    refine ⟨some a, len0, cap0, fun i => numOf (W.cell? (a.add (i * 3))), fun i => numOf (W.cell? (a.add (i * 3 + 1))), fun i => numOf (W.cell? (a.add (i * 3 + 2))), rfl, by unfold maxLen at hm; omega, fun hpos => ?_⟩
    have key : ∀ i, i < len0 → ∃ x y z : Int, W.cell? (a.add (i * 3)) = some (.int .u8 x) ∧ W.cell? (a.add (i * 3 + 1)) = some (.int .i64 y) ∧ W.cell? (a.add (i * 3 + 2)) = some (.int .i64 z) ∧ 0 ≤ x ∧ x ≤ 255 := by
      intro i hil
      obtain ⟨ys, n, _, _, _, hj⟩ := hi i (by rw [hmm]; split <;> omega)
      obtain ⟨v0, y0, c0, _, t0⟩ := hj 0 _ rfl
      obtain ⟨v1, y1, c1, _, t1⟩ := hj 1 _ rfl
      obtain ⟨v2, y2, c2, _, t2⟩ := hj 2 _ rfl
      obtain ⟨x, e0, _, wx⟩ := DataW.trod_int Try.underlying5 t0
      obtain ⟨y, e1, _, _⟩ := DataW.trod_int Try.underlying3 t1
      obtain ⟨z, e2, _, _⟩ := DataW.trod_int Try.underlying3 t2
      simp at e0 e1 e2
      subst e0 e1 e2
      have := bounds_u8 wx
      exact ⟨x, y, z, by simpa using c0, by simpa using c1, by simpa using c2, this.1, this.2⟩
    obtain ⟨x0, _, _, c0, _⟩ := key 0 hpos
    have ha : a = ⟨a.block, a.off, none⟩ := by have := add_cell c0; simp only [Nat.zero_mul, Addr.add_zero', Nat.add_zero] at this; exact this
    have hab : a.block < W.heap.size := by have := World.block_lt_of_cell? W _ c0; rw [add_cell c0] at this; exact this
    refine ⟨a.block, a.off, congrArg some ha, hab, fun i hil => ?_⟩
    obtain ⟨x, y, z, cx, cy, cz, h0, h1⟩ := key i hil
    dsimp only
    rw [cx, cy, cz]
    rw [add_cell cx] at cx; rw [add_cell cy] at cy; rw [add_cell cz] at cz
    exact ⟨cx, by show _ = some (Value.int .i64 y); rw [Nat.add_assoc]; exact cy, by show _ = some (Value.int .i64 z); rw [Nat.add_assoc]; exact cz, h0, h1⟩

set_option maxRecDepth 100000 in
theorem linksPlay_lifted (os : Os) (started : os.Started) (H : Type) (enc : TypeId × Value → H) :
    ReturnsInHanded {} Try.checked os 6 .any (Rows.linksPlaySpec.pre6 enc Try.prog Try.f6 Rows.linksPlayRow.domain false) (Rows.linksPlaySpec.post enc Try.prog Try.f6 false true false false) := by
  refine returnsInHanded_of_change (C := Try.checked) own started (by kernel_rfl) Try.func6
    (ChangeSpec.witness6 (enc := enc) (C := Try.checked) false ⟨#[], #[.slice none 0 0], []⟩ 8 (by kernel_rfl) (by kernel_rfl) (by kernel_rfl) (by kernel_rfl)) ?_
  intro W base args ds gs before hval0 hW hcnd _
  have hval : ∀ (j : Nat) t v, Try.f6.params[j]? = some t → args[j]? = some v → Value.okWide Try.prog W .any base t v := hval0
  have hW' := hW
  obtain ⟨p, q, hA0, hV, rfl, hfz, hnd⟩ := hW
  have hA : DataW.TrodAll enc Try.prog W 0 (fun _ => true) true Try.f6.params.toList args.toList ds p := hA0
  rw [Try.params6] at hA hval
  obtain ⟨v0, d0, rfl, rfl, h0⟩ := trodAll_one hA
  obtain ⟨rfl, rfl⟩ := trodVars_none hV
  have k0 := h0
  have lt0 : ∀ x ∈ p, x.block < W.heap.size := by obtain ⟨m, hm⟩ := k0; exact DataW.trod_lt m _ _ _ hm
  obtain ⟨A, len, cap, K, X, Y, rfl, hl, hacts⟩ := open_acts (hval 0 45 v0 rfl rfl) h0
  clear hA0 hval0
  refine (play_walk A len cap K X Y W hacts hl).mono fun e W' ⟨he, bel⟩ => ?_
  subst he
  exact ⟨_, rfl, _, _, _, [], _, [], hW', trodAll_mk1 (shut_bool Try.underlying4 _), trodAll_mk1 (Below.trod laidOut (by kernel_rfl) (of_decide_eq_true (by kernel_rfl)) k0 bel lt0), rfl, bel.frame _, fun h => by cases h⟩

theorem linksPlay_holds : Rows.LinksPlaySaid :=
  OpenClaim.holds_of_wide 6 Try.f6 rfl rfl rfl rfl rfl rfl rfl ⟨rfl, rfl, rfl, rfl, rfl⟩ rfl rfl rfl rfl rfl (by kernel_rfl) Try.func6 (by kernel_rfl)
    (of_decide_eq_true (by kernel_rfl)) (by unfold Func.isWrapper; first | (rw [if_pos (by decide +kernel)]; kernel_rfl) | (rw [if_neg (by decide +kernel)]; exact ⟨rfl, rfl⟩))
    (fun os started H enc _ => linksPlay_lifted os started H enc)
#print axioms linksPlay_holds
end Go.Proofs.Ytllicaibgjjidaa
