import Derived.Test.YtajcijocjbakbaaDoorOxA
namespace Go.Proofs.YtajcijocjbakbaaDoor
open Go.RowKit

/-! ### the plain law: what a tidy program holds, its book says too -/
def modeOf (w : Int) : Int := if w = 3 then 1 else if w = 6 then 2 else 3
structure Inv (h : List Th) (l : List (Th × Value)) (t : Int) : Prop where
  uniq : ∀ a v w, (a, v) ∈ h → (a, w) ∈ h → v = w
  has : ∀ a w, (a, w) ∈ h → md l (t, a) = modeOf w
  no : ∀ a, (∀ w, (a, w) ∉ h) → md l (t, a) = 0
theorem md_set (l : List (Th × Value)) (k k' : Th) (m : Int) : md (mset l k (.int .u8 m)) k' = if k' = k then m else md l k' := by
  unfold md
  rw [mget_set]
  by_cases e : k' = k
  · rw [if_pos e, if_pos e]
  · rw [if_neg e, if_neg e]
theorem md_del (l : List (Th × Value)) (k k' : Th) : md (mdel l k) k' = if k' = k then 0 else md l k' := by
  unfold md
  rw [mget_del]
  by_cases e : k' = k
  · rw [if_pos e, if_pos e]
  · rw [if_neg e, if_neg e]
theorem mem_addK {l : List Th} {k p : Th} : p ∈ addK l k ↔ p ∈ l ∨ p = k := by
  unfold addK
  split
  · rename_i h
    exact ⟨.inl, fun h' => h'.elim id fun e => by rw [e]; exact h⟩
  · rw [List.mem_append, List.mem_singleton]
theorem mem_delK {l : List Th} {k p : Th} : p ∈ delK l k ↔ p ∈ l ∧ p ≠ k := by
  unfold delK
  rw [List.mem_filter]
  simp
section
variable {h : List Th} {l : List (Th × Value)} {t a w m : Int}
theorem ne_pair {a' : Int} (hne : a' ≠ a) : ¬ ((t, a') : Th) = (t, a) := fun e => hne (congrArg Prod.snd e)
theorem Inv.add (i : Inv h l t) (hno : ∀ w, (a, w) ∉ h) (hm : m = modeOf w) : Inv (addK h (a, w)) (mset l (t, a) (.int .u8 m)) t := by
  refine ⟨fun b u v h1 h2 => ?_, fun b v h1 => ?_, fun b h1 => ?_⟩
  · rw [mem_addK] at h1 h2
    rcases h1 with h1 | h1 <;> rcases h2 with h2 | h2
    · exact i.uniq b u v h1 h2
    · injection h2 with e1 e2; subst e1; exact absurd h1 (hno u)
    · injection h1 with e1 e2; subst e1; exact absurd h2 (hno v)
    · injection h1 with e1 e2; injection h2 with e3 e4; rw [e2, e4]
  · rw [md_set]
    rcases mem_addK.1 h1 with h1 | h1
    · have hne : b ≠ a := fun e => hno v (by rw [← e]; exact h1)
      rw [if_neg (ne_pair hne)]
      exact i.has b v h1
    · injection h1 with e1 e2
      rw [e1, if_pos rfl, e2, hm]
  · have hne : b ≠ a := fun e => h1 w (mem_addK.2 (.inr (by rw [e])))
    rw [md_set, if_neg (ne_pair hne)]
    exact i.no b fun v hv => h1 v (mem_addK.2 (.inl hv))
theorem Inv.del (i : Inv h l t) (hin : (a, w) ∈ h) : Inv (delK h (a, w)) (mdel l (t, a)) t := by
  refine ⟨fun b u v h1 h2 => i.uniq b u v (mem_delK.1 h1).1 (mem_delK.1 h2).1, fun b v h1 => ?_, fun b h1 => ?_⟩
  · obtain ⟨h3, h2⟩ := mem_delK.1 h1
    have hne : b ≠ a := fun e => by
      subst e
      exact h2 (by rw [i.uniq b v w h3 hin])
    rw [md_del, if_neg (ne_pair hne)]
    exact i.has b v h3
  · rw [md_del]
    by_cases e : b = a
    · rw [e, if_pos rfl]
    · rw [if_neg (ne_pair e)]
      exact i.no b fun v hv => h1 v (mem_delK.2 ⟨hv, fun e' => e (congrArg Prod.fst e')⟩)
theorem Inv.turn {u : Int} (i : Inv h l t) (hin : (a, u) ∈ h) (hm : m = modeOf w) : Inv (addK (delK h (a, u)) (a, w)) (mset l (t, a) (.int .u8 m)) t := by
  have hno : ∀ v, (a, v) ∉ delK h (a, u) := fun v hv => by
    obtain ⟨h3, h2⟩ := mem_delK.1 hv
    exact h2 (by rw [i.uniq a v u h3 hin])
  have hd := i.del hin
  refine ⟨(hd.add (m := m) hno hm).uniq, fun b v h1 => ?_, fun b h1 => ?_⟩
  · have := (hd.add (m := m) hno hm).has b v h1
    rw [md_set, md_del] at this
    rw [md_set]
    by_cases e : ((t, b) : Th) = (t, a)
    · rw [if_pos e] at this ⊢
      exact this
    · rw [if_neg e, if_neg e] at this
      rw [if_neg e]
      exact this
  · have := (hd.add (m := m) hno hm).no b h1
    rw [md_set, md_del] at this
    rw [md_set]
    by_cases e : ((t, b) : Th) = (t, a)
    · rw [if_pos e] at this ⊢
      exact this
    · rw [if_neg e, if_neg e] at this
      rw [if_neg e]
      exact this
theorem Inv.same (i : Inv h l t) (hin : (a, w) ∈ h) (hm : m = modeOf w) : Inv h (mset l (t, a) (.int .u8 m)) t := by
  refine ⟨i.uniq, fun b v h1 => ?_, fun b h1 => ?_⟩
  · rw [md_set]
    by_cases e : b = a
    · subst e
      rw [if_pos rfl, hm, i.uniq b v w h1 hin]
    · rw [if_neg (ne_pair e)]
      exact i.has b v h1
  · have hne : b ≠ a := fun e => h1 w (by rw [e]; exact hin)
    rw [md_set, if_neg (ne_pair hne)]
    exact i.no b h1
variable {x : OpR} {k : Nat} {f e : Int} {oth : Bool}
theorem did_set (hk : x.k = (k : Int)) (hA : At k = ⟨true, f, m, e, oth⟩) (hm : m ≠ 0) : didL Ut At l t x = mset l (t, atO Ut At x) (.int .u8 m) := by
  unfold didL
  rw [hk, Int.toNat_natCast, hA]
  simp [hm]
theorem did_del (hk : x.k = (k : Int)) (hA : At k = ⟨true, f, 0, e, oth⟩) : didL Ut At l t x = mdel l (t, atO Ut At x) := by
  unfold didL
  rw [hk, Int.toNat_natCast, hA]
  simp
theorem did_non (hk : x.k = (k : Int)) (hA : At k = ⟨false, f, m, e, oth⟩) : didL Ut At l t x = l := by
  unfold didL
  rw [hk, Int.toNat_natCast, hA]
  simp
theorem can_zero (hmay : mayO Ut x = true) (hk : x.k = (k : Int)) (hA : At k = ⟨true, f, m, e, oth⟩) (hm : md l (t, atO Ut At x) = f) : canO Ut At l t x = 0 := by
  unfold canO
  rw [if_pos hmay, hk, Int.toNat_natCast, hA]
  simp [hm]
theorem can_non (hmay : mayO Ut x = true) (hk : x.k = (k : Int)) (hA : At k = ⟨false, f, m, e, oth⟩) : canO Ut At l t x = 0 := by
  unfold canO
  rw [if_pos hmay, hk, Int.toNat_natCast, hA]
  simp
theorem at_first (hk : x.k = (k : Int)) (hA : (At k).other = false) : atO Ut At x = (addrO Ut x).1 := by
  unfold atO
  rw [hk, Int.toNat_natCast, hA]
  rfl
theorem at_other (hk : x.k = (k : Int)) (hA : (At k).other = true) : atO Ut At x = (addrO Ut x).2 := by
  unfold atO
  rw [hk, Int.toNat_natCast, hA]
  rfl
end
theorem next_law (h h' : List Th) (l : List (Th × Value)) (t : Int) (x : OpR) (k : Nat) (hk : x.k = (k : Int)) (hk26 : k < 26) (hmay : mayO Ut x = true) (i : Inv h l t) (hn : nextO h k x.t (addrO Ut x).1 (addrO Ut x).2 = some h') :
    canO Ut At l t x = 0 ∧ Inv h' (didL Ut At l t x) t := by
  match k, hk26, hk, hn with
  | 0, _, hk, hn =>
    have hn : (if 0 ≤ x.t ∨ (addrO Ut x).1 ≤ great h then none else some (addK h ((addrO Ut x).1, 0))) = some h' := hn
    by_cases c : 0 ≤ x.t ∨ (addrO Ut x).1 ≤ great h
    · rw [if_pos c] at hn; cases hn
    · rw [if_neg c] at hn
      injection hn with hn
      subst hn
      have hno : ∀ w, ((addrO Ut x).1, w) ∉ h := fun w hw => c (.inr (great_ge h ((addrO Ut x).1, w) hw))
      have ha := at_first hk (by rfl)
      refine ⟨can_zero hmay hk (by rfl) (by rw [ha]; exact i.no _ hno), ?_⟩
      rw [did_set (m := 3) hk (by rfl) (by decide), ha]
      exact i.add hno (by decide)
  | 1, _, hk, hn =>
    cases hn
  | 2, _, hk, hn =>
    have hn : (if ((addrO Ut x).1, (0 : Int)) ∈ h then some (delK h ((addrO Ut x).1, 0)) else none) = some h' := hn
    by_cases c : ((addrO Ut x).1, (0 : Int)) ∈ h
    · rw [if_pos c] at hn
      injection hn with hn
      subst hn
      have ha := at_first hk (by rfl)
      refine ⟨can_zero hmay hk (by rfl) (by rw [ha]; exact i.has _ _ c), ?_⟩
      rw [did_del hk (by rfl), ha]
      exact i.del c
    · rw [if_neg c] at hn; cases hn
  | 3, _, hk, hn =>
    have hn : (if 0 ≤ x.t ∨ (addrO Ut x).1 ≤ great h then none else some (addK h ((addrO Ut x).1, 3))) = some h' := hn
    by_cases c : 0 ≤ x.t ∨ (addrO Ut x).1 ≤ great h
    · rw [if_pos c] at hn; cases hn
    · rw [if_neg c] at hn
      injection hn with hn
      subst hn
      have hno : ∀ w, ((addrO Ut x).1, w) ∉ h := fun w hw => c (.inr (great_ge h ((addrO Ut x).1, w) hw))
      have ha := at_first hk (by rfl)
      refine ⟨can_zero hmay hk (by rfl) (by rw [ha]; exact i.no _ hno), ?_⟩
      rw [did_set (m := 1) hk (by rfl) (by decide), ha]
      exact i.add hno (by decide)
  | 4, _, hk, hn =>
    cases hn
  | 5, _, hk, hn =>
    have hn : (if ((addrO Ut x).1, (3 : Int)) ∈ h then some (delK h ((addrO Ut x).1, 3)) else none) = some h' := hn
    by_cases c : ((addrO Ut x).1, (3 : Int)) ∈ h
    · rw [if_pos c] at hn
      injection hn with hn
      subst hn
      have ha := at_first hk (by rfl)
      refine ⟨can_zero hmay hk (by rfl) (by rw [ha]; exact i.has _ _ c), ?_⟩
      rw [did_del hk (by rfl), ha]
      exact i.del c
    · rw [if_neg c] at hn; cases hn
  | 6, _, hk, hn =>
    have hn : (if 0 ≤ x.t ∨ (addrO Ut x).1 ≤ great h then none else some (addK h ((addrO Ut x).1, 6))) = some h' := hn
    by_cases c : 0 ≤ x.t ∨ (addrO Ut x).1 ≤ great h
    · rw [if_pos c] at hn; cases hn
    · rw [if_neg c] at hn
      injection hn with hn
      subst hn
      have hno : ∀ w, ((addrO Ut x).1, w) ∉ h := fun w hw => c (.inr (great_ge h ((addrO Ut x).1, w) hw))
      have ha := at_first hk (by rfl)
      refine ⟨can_zero hmay hk (by rfl) (by rw [ha]; exact i.no _ hno), ?_⟩
      rw [did_set (m := 2) hk (by rfl) (by decide), ha]
      exact i.add hno (by decide)
  | 7, _, hk, hn =>
    cases hn
  | 8, _, hk, hn =>
    have hn : (if ((addrO Ut x).1, (6 : Int)) ∈ h then some (delK h ((addrO Ut x).1, 6)) else none) = some h' := hn
    by_cases c : ((addrO Ut x).1, (6 : Int)) ∈ h
    · rw [if_pos c] at hn
      injection hn with hn
      subst hn
      have ha := at_first hk (by rfl)
      refine ⟨can_zero hmay hk (by rfl) (by rw [ha]; exact i.has _ _ c), ?_⟩
      rw [did_del hk (by rfl), ha]
      exact i.del c
    · rw [if_neg c] at hn; cases hn
  | 9, _, hk, hn =>
    have hn : (if 0 ≤ x.t ∨ (addrO Ut x).1 ≤ great h then none else some (addK h ((addrO Ut x).1, 9))) = some h' := hn
    by_cases c : 0 ≤ x.t ∨ (addrO Ut x).1 ≤ great h
    · rw [if_pos c] at hn; cases hn
    · rw [if_neg c] at hn
      injection hn with hn
      subst hn
      have hno : ∀ w, ((addrO Ut x).1, w) ∉ h := fun w hw => c (.inr (great_ge h ((addrO Ut x).1, w) hw))
      have ha := at_first hk (by rfl)
      refine ⟨can_zero hmay hk (by rfl) (by rw [ha]; exact i.no _ hno), ?_⟩
      rw [did_set (m := 3) hk (by rfl) (by decide), ha]
      exact i.add hno (by decide)
  | 10, _, hk, hn =>
    cases hn
  | 11, _, hk, hn =>
    have hn : (if ((addrO Ut x).1, (9 : Int)) ∈ h then some (delK h ((addrO Ut x).1, 9)) else none) = some h' := hn
    by_cases c : ((addrO Ut x).1, (9 : Int)) ∈ h
    · rw [if_pos c] at hn
      injection hn with hn
      subst hn
      have ha := at_first hk (by rfl)
      refine ⟨can_zero hmay hk (by rfl) (by rw [ha]; exact i.has _ _ c), ?_⟩
      rw [did_del hk (by rfl), ha]
      exact i.del c
    · rw [if_neg c] at hn; cases hn
  | 12, _, hk, hn =>
    cases hn
  | 13, _, hk, hn =>
    cases hn
  | 14, _, hk, hn =>
    have hn : (if ((addrO Ut x).1, (9 : Int)) ∈ h then some (addK (delK h ((addrO Ut x).1, 9)) ((addrO Ut x).1, 3)) else none) = some h' := hn
    by_cases c : ((addrO Ut x).1, (9 : Int)) ∈ h
    · rw [if_pos c] at hn
      injection hn with hn
      subst hn
      have ha := at_first hk (by rfl)
      refine ⟨can_zero hmay hk (by rfl) (by rw [ha]; exact i.has _ _ c), ?_⟩
      rw [did_set (m := 1) hk (by rfl) (by decide), ha]
      exact i.turn c (by decide)
    · rw [if_neg c] at hn; cases hn
  | 15, _, hk, hn =>
    have hn : (if ((addrO Ut x).1, (9 : Int)) ∈ h then some (addK (delK h ((addrO Ut x).1, 9)) ((addrO Ut x).1, 6)) else none) = some h' := hn
    by_cases c : ((addrO Ut x).1, (9 : Int)) ∈ h
    · rw [if_pos c] at hn
      injection hn with hn
      subst hn
      have ha := at_first hk (by rfl)
      refine ⟨can_zero hmay hk (by rfl) (by rw [ha]; exact i.has _ _ c), ?_⟩
      rw [did_set (m := 2) hk (by rfl) (by decide), ha]
      exact i.turn c (by decide)
    · rw [if_neg c] at hn; cases hn
  | 16, _, hk, hn =>
    have hn : (if ((addrO Ut x).1, (6 : Int)) ∈ h then some (addK (delK h ((addrO Ut x).1, 6)) ((addrO Ut x).1, 3)) else none) = some h' := hn
    by_cases c : ((addrO Ut x).1, (6 : Int)) ∈ h
    · rw [if_pos c] at hn
      injection hn with hn
      subst hn
      have ha := at_first hk (by rfl)
      refine ⟨can_zero hmay hk (by rfl) (by rw [ha]; exact i.has _ _ c), ?_⟩
      rw [did_set (m := 1) hk (by rfl) (by decide), ha]
      exact i.turn c (by decide)
    · rw [if_neg c] at hn; cases hn
  | 17, _, hk, hn =>
    have hn : (if 0 ≤ x.t ∧ ((addrO Ut x).2, (0 : Int)) ∈ h ∧ great h = (addrO Ut x).2 then some h else none) = some h' := hn
    by_cases c : 0 ≤ x.t ∧ ((addrO Ut x).2, (0 : Int)) ∈ h ∧ great h = (addrO Ut x).2
    · rw [if_pos c] at hn
      injection hn with hn
      subst hn
      have ha := at_other hk (by rfl)
      refine ⟨can_zero hmay hk (by rfl) (by rw [ha]; exact i.has _ _ c.2.1), ?_⟩
      rw [did_set (m := 3) hk (by rfl) (by decide), ha]
      exact i.same c.2.1 (by decide)
    · rw [if_neg c] at hn; cases hn
  | 18, _, hk, hn =>
    have hn : some h = some h' := hn
    injection hn with hn
    subst hn
    exact ⟨can_non hmay hk (by rfl), by rw [did_non hk (by rfl)]; exact i⟩
  | 19, _, hk, hn =>
    have hn : some h = some h' := hn
    injection hn with hn
    subst hn
    exact ⟨can_non hmay hk (by rfl), by rw [did_non hk (by rfl)]; exact i⟩
  | 20, _, hk, hn =>
    have hn : some h = some h' := hn
    injection hn with hn
    subst hn
    exact ⟨can_non hmay hk (by rfl), by rw [did_non hk (by rfl)]; exact i⟩
  | 21, _, hk, hn =>
    have hn : (if 0 ≤ x.t then some h else none) = some h' := hn
    by_cases c : 0 ≤ x.t
    · rw [if_pos c] at hn
      injection hn with hn
      subst hn
      exact ⟨can_non hmay hk (by rfl), by rw [did_non hk (by rfl)]; exact i⟩
    · rw [if_neg c] at hn; cases hn
  | 22, _, hk, hn =>
    have hn : some h = some h' := hn
    injection hn with hn
    subst hn
    exact ⟨can_non hmay hk (by rfl), by rw [did_non hk (by rfl)]; exact i⟩
  | 23, _, hk, hn =>
    have hn : some h = some h' := hn
    injection hn with hn
    subst hn
    exact ⟨can_non hmay hk (by rfl), by rw [did_non hk (by rfl)]; exact i⟩
  | 24, _, hk, hn =>
    have hn : some h = some h' := hn
    injection hn with hn
    subst hn
    exact ⟨can_non hmay hk (by rfl), by rw [did_non hk (by rfl)]; exact i⟩
  | 25, _, hk, hn =>
    have hn : some h = some h' := hn
    injection hn with hn
    subst hn
    exact ⟨can_non hmay hk (by rfl), by rw [did_non hk (by rfl)]; exact i⟩
  | n + 26, h26, _, _ => exact absurd h26 (by omega)
theorem step_law (h h' : List Th) (l : List (Th × Value)) (t : Int) (x : OpR) (i : Inv h l t) (hx : 0 ≤ x.k) (hn : stepT h x = some h') : canO Ut At l t x = 0 ∧ Inv h' (didL Ut At l t x) t := by
  unfold stepT at hn
  by_cases hm : mayO Ut x = true
  · rw [if_pos hm] at hn
    have := (mayO_bounds hm).1
    exact next_law h h' l t x x.k.toNat (Int.toNat_of_nonneg hx).symm (by omega) hm i hn
  · rw [if_neg hm] at hn
    cases hn
/-- Another thread has what it had. -/
theorem didL_other (U : Nat → Use) (A : Nat → Ask) (l : List (Th × Value)) (t t' a : Int) (x : OpR) (hne : t' ≠ t) : md (didL U A l t x) (t', a) = md l (t', a) := by
  have hp : ∀ b, ¬ ((t', a) : Th) = (t, b) := fun b e => hne (congrArg Prod.fst e)
  unfold didL
  split
  · split
    · rw [md_del, if_neg (hp _)]
    · rw [md_set, if_neg (hp _)]
  · rfl
theorem inv_start (l : List (Th × Value)) (t : Int) (h : ∀ p ∈ l, p.1.1 ≠ t) : Inv [] l t := by
  refine ⟨(fun _ _ _ h => by cases h), (fun _ _ h => by cases h), fun a _ => ?_⟩
  unfold md
  have : mget l (t, a) = none := mget_none fun hm => by
    obtain ⟨p, hp, e⟩ := List.mem_map.1 hm
    exact h p hp (by rw [e])
  rw [this]
/-- Of a tidy program each operation may be done. -/
theorem tidy_step (xs : List OpR) (ht : tidyO xs = true) (k : Nat) (hk : k < xs.length) (h : List Th) (hr : runT [] (xs.take k) = some h) : ∃ h', stepT h xs[k] = some h' ∧ runT [] (xs.take (k + 1)) = some h' := by
  have h1 : runT [] (xs.take (k + 1)) = stepT h xs[k] := by rw [List.take_succ_eq_append_getElem hk]; exact runT_snoc _ _ _ _ hr
  cases hs : stepT h xs[k] with
  | none =>
    have := tidyO_fails (xs.take (k + 1)) (xs.drop (k + 1)) (h1.trans hs)
    rw [List.take_append_drop, ht] at this
    cases this
  | some h' => exact ⟨h', rfl, h1.trans hs⟩
theorem tidy_end (xs : List OpR) (ht : tidyO xs = true) : runT [] xs = some [] := by
  unfold tidyO at ht
  cases hr : runT [] xs with
  | none => rw [hr] at ht; cases ht
  | some h =>
    cases h with
    | nil => rfl
    | cons a r => rw [hr] at ht; cases ht
end Go.Proofs.YtajcijocjbakbaaDoor
