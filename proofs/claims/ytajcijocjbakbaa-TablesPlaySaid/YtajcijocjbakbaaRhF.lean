import Derived.Test.YtajcijocjbakbaaRhE
namespace Go.Proofs.Ytajcijocjbakbaa
open Go.RowKit
attribute [local go_sem] Oper.semAt_some

theorem rehash_out (A : Option Addr) (n c : Nat) (b : Int) (h : tbl b = false) (w : World) : Calls Try.prog 15 #[.slice A n c, .int .i64 b] w fun e w' => e = .returned (.slice none 0 0) ∧ Frm w w' fun _ => False := by
  have HSZ : ∀ V, Calls Try.prog 13 #[.int .i64 b] V fun e w' => e = .returned (.int .i64 0) ∧ V = w' := fun V => by
    have := size_any b V
    unfold sz at this
    rw [h] at this
    exact this
  have HSZ := Lib.hid HSZ
  refine (callsIn_wide (n := 0)).1 ?_
  refine callsIn_of_wp_marks Try.func15 rfl trivial ?_ rfl
  simp only [Try.ntmps15, List.size_toArray, List.length_cons, List.length_nil, Nat.reduceAdd, Nat.reduceSub, Array.replicate_succ, Array.replicate_zero, List.push_toArray, List.append_toArray, List.nil_append, List.cons_append]
  refine wpIn_wide.2 ?_
  go_wp2_with (go_at_call 13; refine (HSZ.out _).mono ?_; rintro e w' ⟨rfl, rfl⟩)
  refine ⟨.slice none 0 0, by simp [results, Try.results15, go_sem], rfl, (Frm.refl _ _).alloc _⟩
end Go.Proofs.Ytajcijocjbakbaa
