import Derived.Test.YtmjpaaippilioaaDoorPgY
namespace Go.Proofs.YtmjpaaippilioaaDoor
open Go.RowKit Go.MapKept

/-! ### is a program tidy -/
def stepT (l : List Th) (x : OpR) : Option (List Th) :=
  if mayO Ut x then nextO l x.k.toNat x.t (addrO Ut x).1 (addrO Ut x).2 else none
def runT (l : List Th) : List OpR → Option (List Th)
  | [] => some l
  | x :: xs => (stepT l x).bind fun l' => runT l' xs
def tidyO (xs : List OpR) : Bool := match runT [] xs with | some [] => true | _ => false
theorem runT_app (l : List Th) (xs ys : List OpR) : runT l (xs ++ ys) = (runT l xs).bind fun l' => runT l' ys := by
  induction xs generalizing l with
  | nil => rfl
  | cons x xs ih =>
    rw [List.cons_append]
    show (stepT l x).bind _ = ((stepT l x).bind _).bind _
    cases stepT l x with
    | none => rfl
    | some l' => exact ih l'
theorem runT_snoc (l l1 : List Th) (xs : List OpR) (x : OpR) (h : runT l xs = some l1) : runT l (xs ++ [x]) = stepT l1 x := by
  rw [runT_app, h]
  show (stepT l1 x).bind (fun l' => runT l' []) = _
  cases stepT l1 x <;> rfl
theorem tidyO_fails (xs ys : List OpR) (h : runT [] xs = none) : tidyO (xs ++ ys) = false := by
  unfold tidyO
  rw [runT_app, h]
  rfl
/-! the keys' addresses are small -/
def Small (l : List Th) : Prop := ∀ k ∈ l, 0 ≤ k.1 ∧ k.1 ≤ 131072
theorem small_add {l : List Th} {k : Th} (h : Small l) (hk : 0 ≤ k.1 ∧ k.1 ≤ 131072) : Small (addK l k) := by
  intro p hp
  unfold addK at hp
  split at hp
  · exact h p hp
  · rcases List.mem_append.1 hp with hp | hp
    · exact h p hp
    · rw [List.mem_singleton] at hp
      rw [hp]
      exact hk
theorem small_del {l : List Th} {k : Th} (h : Small l) : Small (delK l k) := fun p hp => h p (List.mem_filter.1 hp).1
theorem addr_small (x : OpR) : 0 ≤ (addrO Ut x).1 ∧ (addrO Ut x).1 ≤ 131072 := by
  unfold addrO
  by_cases hm : mayO Ut x = true
  · rw [if_pos hm]
    obtain ⟨h1, h2, h3, _⟩ := mayO_bounds hm
    have h0 : x.k.toNat < 26 := by omega
    have := tabsOk.first _ h0
    show 0 ≤ (Ut x.k.toNat).first + 4 * x.a ∧ (Ut x.k.toNat).first + 4 * x.a ≤ 131072
    omega
  · rw [if_neg hm]
    exact ⟨by decide, by decide⟩
theorem small_next {l l' : List Th} {k : Nat} {t a o : Int} (h : Small l) (ha : 0 ≤ a ∧ a ≤ 131072) (hn : nextO l k t a o = some l') : Small l' := by
  unfold nextO at hn
  split at hn <;> (try split at hn) <;> first
    | (injection hn with hn; subst hn; first | exact h | exact small_add h ha | exact small_del h | exact small_add (small_del h) ha)
    | cases hn
theorem small_step {l l' : List Th} {x : OpR} (h : Small l) (hn : stepT l x = some l') : Small l' := by
  unfold stepT at hn
  split at hn
  · exact small_next h (addr_small x) hn
  · cases hn
theorem MpS.len {w : World} {b : Nat} {l : List (Th × Value)} (h : MpS w th2V b l) : (Builtin.len_ #[93] 3 #[.map (some b)]).run Tryd.prog w = .ok (.int .i64 l.length) w := by
  obtain ⟨hn, es, clock, hb, he, _⟩ := h
  have ht : Tryd.prog.underlying 93 = some (.map 126 3) := by kernel_rfl
  have hl : es.size = l.length := by have := congrArg List.length he; simpa using this
  simp [Builtin.len_, run_underlying ht, goInt, Result.andThen, Go.MapKept.run_getObj_map (P := Tryd.prog) hb, hl]
end Go.Proofs.YtmjpaaippilioaaDoor
