/-
  'laybylaw05.LinksVoid': whatever act is handed in, the law returns true, and the act reads behind the call as it read before. No condition.
-/
import Derived.Test.YtllicaibgjjidaaLkH
import Derived.ProofKit
import Derived.OpenShut
import Derived.ChangeOld
import Derived.Lib.SmallJoins
namespace Go.Proofs.Ytllicaibgjjidaa.Void
open Go.ChangeShapes Go.WideShapes Go.ChangeAt Go.RowKit Go.Joins

theorem walk (k x y : Int) (k0 : 0 ≤ k) (k1 : k ≤ 255) (w : World) :
    Calls Try.prog 7 #[.agg #[.int .u8 k, .int .i64 x, .int .i64 y]] w fun e w' => e = .returned (.bool true) ∧ Below w.heap.size w w' := by
  have hz := zero53
  have hz2 := zero68
  go_enter Try.func7, Try.ntmps7
  go_wp2_with fail
  refine (push_nil x y _).mono ?_; rintro e w' ⟨rfl, rfl⟩
  go_wp2_with fail
  refine (At_no none x (.inr rfl) _).mono ?_; rintro e w1 ⟨rfl, g1⟩; unfold linkV
  have s1 := g1.size
  simp only [World.size_alloc] at s1
  have q0 : w1.cell? ⟨w.heap.size, 0, none⟩ = some (.int .u8 k) := g1.cell (a := ⟨w.heap.size, 0, none⟩) (World.cell?_alloc_new _ _ _ _) (by simp)
  have q1 : w1.cell? ⟨w.heap.size, 1, none⟩ = some (.int .i64 x) := g1.cell (a := ⟨w.heap.size, 1, none⟩) (World.cell?_alloc_new _ _ _ _) (by simp)
  have q2 : w1.cell? ⟨w.heap.size, 2, none⟩ = some (.int .i64 y) := g1.cell (a := ⟨w.heap.size, 2, none⟩) (World.cell?_alloc_new _ _ _ _) (by simp)
  have hb1 : Hid (Below w.heap.size w w1) := below_only (b := w.heap.size) (below_alloc (Nat.le_refl _) _) ⟨g1.os, g1.tape, g1.output, g1.size, fun i hi _ => g1.block i hi (by simp)⟩ (Nat.le_refl _) (by simp)
  clear g1
  go_wp2_with fail
  refine (seek_no none x (.inr rfl) _).mono ?_; rintro e w' ⟨rfl, rfl⟩
  go_wp2_with fail
  refine (cut_nil x y _).mono ?_; rintro e w' ⟨rfl, rfl⟩
  have hb : Lnk ((w1.alloc (.cells Z192 68)).alloc (.cells Z192 53)) w1.heap.size (fun _ => 0) := (lnk_new w1 68).alloc _
  have hc : Lnk ((w1.alloc (.cells Z192 68)).alloc (.cells Z192 53)) (w1.heap.size + 1) (fun _ => 0) := by have := lnk_new (w1.alloc (.cells Z192 68)) 53; rwa [World.size_alloc] at this
  have Q : ∀ W2 : World, Below w1.heap.size ((w1.alloc (.cells Z192 68)).alloc (.cells Z192 53)) W2 → ∀ i v, w1.cell? ⟨w.heap.size, i, none⟩ = some v → W2.cell? ⟨w.heap.size, i, none⟩ = some v := fun W2 h i v hv =>
    (h.cell (p := ⟨w.heap.size, i, none⟩) (by show w.heap.size < _; omega)).trans (((below_alloc (Nat.le_refl _) (.cells Z192 68)).alloc (by simp) (.cells Z192 53)).cell (p := ⟨w.heap.size, i, none⟩) (by show w.heap.size < _; omega) |>.trans hv)
  have hb2 : Hid (Below w.heap.size w ((w1.alloc (.cells Z192 68)).alloc (.cells Z192 53))) := (hb1.out.alloc hb1.out.size _).alloc (Nat.le_trans hb1.out.size (by simp)) _
  have q := Lib.hid (And.intro q0 (And.intro q1 q2))
  clear q0 q1 q2 hb1
  have HQ := Lib.hid Q
  clear Q
  go_wp2_with fail
  clear hz hz2
  refine (same_any _ _ _ _ hb hc ok0).mono ?_; rintro e w3 ⟨rfl, g3⟩
  have s3 := g3.size
  simp only [World.size_alloc] at s3
  have hb3 := hb.grown g3 (by simp)
  have hc3 := hc.grown g3 (by simp)
  have hB3 := Lib.hid ((only_below g3).mono (B' := w1.heap.size) (by simp; omega))
  clear hb hc g3
  have q0 := HQ.out w3 hB3.out 0 _ q.out.1
  have q1 := HQ.out w3 hB3.out 1 _ q.out.2.1
  have q2 := HQ.out w3 hB3.out 2 _ q.out.2.2
  go_wp2_with fail
  refine (do_any w1.heap.size _ _ _ k x y _ hb3 hc3 ok0 (by omega) (Nat.le_refl _) (by omega) k0 k1).mono ?_; rintro e w4 ⟨rfl, f, hb4, hc4, ok4, hB4⟩
  have HB4 := Lib.hid (hB3.out.trans hB4)
  clear hB4 hb3 hc3 q0 q1 q2
  go_wp2_with fail
  refine (same_any _ _ _ _ hb4 hc4 ok4).mono ?_; rintro e w5 ⟨rfl, g5⟩
  have HB5 := Lib.hid (HB4.out.trans ((only_below g5).mono (by have := HB4.out.size; simp at this; omega)))
  clear g5 hb4 hc4
  go_wp2_with fail
  have s5 := HB5.out.size
  refine (lives_below w5 w.heap.size (by simp at s5; omega)).mono ?_; rintro e w6 ⟨rfl, g6⟩
  go_wp2
  go_ret
  exact ⟨rfl, (hb2.out.trans (HB5.out.mono (by omega))).trans g6⟩

theorem own : ownKnob Try.prog.godebug = none := by kernel_rfl

set_option maxRecDepth 100000 in
theorem lifted (os : Os) (started : os.Started) (H : Type) (enc : TypeId × Value → H) :
    ReturnsInHanded {} Try.checked os 7 .any (Rows.linksVoidSpec.pre6 enc Try.prog Try.f7 Rows.linksVoidRow.domain false) (Rows.linksVoidSpec.post enc Try.prog Try.f7 false true false false) := by
  refine returnsInHanded_of_change (C := Try.checked) own started (by kernel_rfl) Try.func7
    (ChangeSpec.witness6 (enc := enc) (C := Try.checked) false ⟨#[], #[.agg #[.int .u8 0, .int .i64 0, .int .i64 0]], []⟩ 8 (by kernel_rfl) (by kernel_rfl) (by kernel_rfl) (by kernel_rfl)) ?_
  intro W base args ds gs before hval0 hW hcnd _
  have hval : ∀ (j : Nat) t v, Try.f7.params[j]? = some t → args[j]? = some v → Value.okWide Try.prog W .any base t v := hval0
  have hW' := hW
  obtain ⟨p, q, hA0, hV, rfl, hfz, hnd⟩ := hW
  have hA : DataW.TrodAll enc Try.prog W 0 (fun _ => true) true Try.f7.params.toList args.toList ds p := hA0
  rw [Try.params7] at hA hval
  obtain ⟨v0, d0, rfl, rfl, h0⟩ := trodAll_one hA
  obtain ⟨rfl, rfl⟩ := trodVars_none hV
  have k0 := h0
  have lt0 : ∀ x ∈ p, x.block < W.heap.size := by obtain ⟨m, hm⟩ := k0; exact DataW.trod_lt m _ _ _ hm
  obtain ⟨c0, c1, c2, y0, y1, y2, m, rfl, _, _, hy0, hy1, hy2⟩ := open_agg3 Try.underlying56 (by kernel_rfl) (by kernel_rfl) (hval 0 56 v0 rfl rfl) h0
  obtain ⟨a, e0, _, wa⟩ := DataW.trod_int Try.underlying5 hy0
  obtain ⟨b, e1, _, _⟩ := DataW.trod_int Try.underlying3 hy1
  obtain ⟨c, e2, _, _⟩ := DataW.trod_int Try.underlying3 hy2
  simp at e0 e1 e2
  subst e0 e1 e2
  have hb := bounds_u8 wa
  clear hA0 hval0
  refine (walk a b c hb.1 hb.2 W).mono fun e W' ⟨he, bel⟩ => ?_
  subst he
  exact ⟨_, rfl, _, _, _, [], _, [], hW', trodAll_mk1 (shut_bool Try.underlying4 _), trodAll_mk1 (Below.trod (by kernel_rfl) (by kernel_rfl) (of_decide_eq_true (by kernel_rfl)) k0 bel lt0), rfl, bel.frame _, fun h => by cases h⟩

theorem holds : Rows.LinksVoidSaid :=
  OpenClaim.holds_of_wide 7 Try.f7 rfl rfl rfl rfl rfl rfl rfl ⟨rfl, rfl, rfl, rfl, rfl⟩ rfl rfl rfl rfl rfl (by kernel_rfl) Try.func7 (by kernel_rfl)
    (of_decide_eq_true (by kernel_rfl)) (by unfold Func.isWrapper; first | (rw [if_pos (by decide +kernel)]; kernel_rfl) | (rw [if_neg (by decide +kernel)]; exact ⟨rfl, rfl⟩))
    (fun os started H enc _ => lifted os started H enc)
#print axioms holds
end Go.Proofs.Ytllicaibgjjidaa.Void
