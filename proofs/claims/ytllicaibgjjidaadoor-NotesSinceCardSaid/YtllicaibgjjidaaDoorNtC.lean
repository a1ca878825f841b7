import Derived.Test.YtllicaibgjjidaaDoorNtB
namespace Go.Proofs.YtllicaibgjjidaaDoor
open Go.RowKit

abbrev Nt.A (n : Nt) : Value := .agg #[.int .i64 n.s, .int .i64 n.t, .int .u8 n.k, .int .u32 n.a, .int .i64 n.o, .int .u32 n.p, .int .u64 n.v]
abbrev Nt.B (n : Nt) : Value := .agg #[.int .i64 n.s, .int .i64 n.t, .int .i64 n.k, .int .u32 n.a, .int .i64 n.o, .int .u32 n.p, .int .u64 n.v]
theorem takes_kind {xs : List Nt} {n : Nt} (h : isK n.k = false) : takes xs n = false := by simp [takes, h]
theorem takes_nil (n : Nt) : takes [] n = isK n.k := by simp [takes]
theorem takes_last (ys : List Nt) (l n : Nt) : takes (ys ++ [l]) n = (isK n.k && !(decide (n.s < l.s))) := by simp [takes]
theorem addL_length (xs : List Nt) (n : Nt) : (addL xs n).length ≤ xs.length + 1 := by unfold addL; split <;> simp

theorem add_any (B b cap : Nat) (A : Option Addr) (xs : List Nt) (n : Nt) (k0 : 0 ≤ n.k) (k1 : n.k ≤ 255) (w : World) (hT : Tab w) (h : Lst Nt.P w B b A cap xs) (hB0 : B ≤ w.heap.size) (hlen : Few xs.length) :
    Calls Tryd.prog 9 #[.pointer (some ⟨b, 0, none⟩), n.A] w fun e w' => e = .returned (.int .i64 (addE xs n)) ∧ Added Nt.P w w' B b A (addL xs n) := by
  cases hk : isK n.k
  · have ht := takes_kind (xs := xs) hk
    refine (add_refused_kind B b cap A xs n k0 k1 w hT h hk).mono ?_
    rintro e w' ⟨rfl, h'⟩
    exact ⟨by simp [addE, ht], by simpa [addL, ht] using h'⟩
  rcases List.eq_nil_or_concat xs with rfl | ⟨ys, l, rfl⟩
  · have ht : takes [] n = true := (takes_nil n).trans hk
    refine (add_taken_nil B b cap A n k0 k1 w hT h hB0 hk).mono ?_
    rintro e w' ⟨rfl, h'⟩
    exact ⟨by simp [addE, ht], by simpa [addL, ht] using h'⟩
  · rw [List.concat_eq_append] at h hlen ⊢
    by_cases hs : n.s < l.s
    · have ht : takes (ys ++ [l]) n = false := by rw [takes_last, hk]; simp [hs]
      refine (add_refused_step B b cap A ys l n k0 k1 w hT h hk hs).mono ?_
      rintro e w' ⟨rfl, h'⟩
      exact ⟨by simp [addE, ht], by simpa [addL, ht] using h'⟩
    · have ht : takes (ys ++ [l]) n = true := by rw [takes_last, hk]; simp; omega
      refine (add_taken_last B b cap A ys l n k0 k1 w hT h hB0 hk hs (by simpa using hlen)).mono ?_
      rintro e w' ⟨rfl, h'⟩
      exact ⟨by simp [addE, ht], by simpa [addL, ht] using h'⟩

theorem add_none (n : Nt) (w : World) : Calls Tryd.prog 9 #[.pointer none, n.A] w fun e w' => e = .returned (.int .i64 2) ∧ Frm w w' fun _ => False := by
  go_enter Tryd.func9, Tryd.ntmps9
  go_wp2
  go_ret
  exact ⟨rfl, by (repeat (first | exact Frm.refl _ _ | apply Frm.drew | apply Frm.drewN | apply Frm.alloc))⟩
/-- The other's note. -/
theorem other_any (n : Nt) (k0 : 0 ≤ n.k) (k1 : n.k ≤ 255) (w : World) : Calls Tryd.prog 13 #[n.A] w fun e w' => e = .returned n.B ∧ Frm w w' fun _ => False := by
  go_enter Tryd.func13, Tryd.ntmps13
  go_wp2
  refine bodyPost_ret (v := n.B) (by simp [results, Tryd.results13, go_sem]) rfl ?_
  exact ⟨rfl, by (repeat (first | exact Frm.refl _ _ | apply Frm.drew | apply Frm.drewN | apply Frm.alloc))⟩
end Go.Proofs.YtllicaibgjjidaaDoor
