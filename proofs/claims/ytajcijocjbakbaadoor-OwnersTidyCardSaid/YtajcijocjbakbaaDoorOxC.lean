import Derived.Test.YtajcijocjbakbaaDoorOxB
namespace Go.Proofs.YtajcijocjbakbaaDoor
open Go.RowKit

/-- What an operation makes of a book, whether it may be or not. -/
def didS (l : List (Th × Value)) (t : Int) (x : OpR) : List (Th × Value) := if canO Ut At l t x = 0 then didL Ut At l t x else l
theorem didS_other (l : List (Th × Value)) (t t' a : Int) (x : OpR) (hne : t' ≠ t) : md (didS l t x) (t', a) = md l (t', a) := by
  unfold didS
  split
  · exact didL_other _ _ _ _ _ _ _ hne
  · rfl
theorem didS_keys (l : List (Th × Value)) (t : Int) (x : OpR) (h : ∀ p ∈ l, p.1.1 = t) : ∀ p ∈ didS l t x, p.1.1 = t := by
  intro p hp
  unfold didS at hp
  split at hp
  · unfold didL at hp
    split at hp
    · split at hp
      · exact h p (List.mem_filter.1 hp).1
      · unfold mset at hp
        split at hp
        · obtain ⟨q, hq, rfl⟩ := List.mem_map.1 hp
          split
          · rfl
          · exact h q hq
        · rcases List.mem_append.1 hp with hp | hp
          · exact h p hp
          · rw [List.mem_singleton] at hp
            rw [hp]
    · exact h p hp
  · exact h p hp
/-- A book of the call's own, and two arrays beside it. -/
structure St2 (w0 w : World) (s : Nat) (g : Option Nat) (l : List (Th × Value)) (b1 b2 : Nat) (f1 f2 : Nat → Value) : Prop where
  st : St w0 w s g l
  v1 : Var w b1 8 f1
  v2 : Var w b2 8 f2
  s1 : s ≠ b1
  s2 : s ≠ b2
  g1 : g ≠ some b1
  g2 : g ≠ some b2
section
variable {w0 w w' : World} {s : Nat} {g : Option Nat} {l : List (Th × Value)} {b1 b2 : Nat} {f1 f2 : Nat → Value}
theorem St2.new_ (h : St2 w0 w s g l b1 b2 f1 f2) (hf : Frm w w' fun _ => False) : St2 w0 w' s g l b1 b2 f1 f2 :=
  ⟨h.st.new_ hf, h.v1.frm hf id, h.v2.frm hf id, h.s1, h.s2, h.g1, h.g2⟩
theorem St.didS_any (h : St w0 w s g l) (h0 : T0 w0) (t : Int) (ht0 : 0 ≤ t) (ht1 : t < 64) (x : OpR) (k : Nat) (hk : x.k = k) (hk8 : k < 256) :
    Calls Tryd.prog 9 #[.pointer (some ⟨s, 0, none⟩), .int .i64 t, x.V, .int .i64 0] w fun e w' => e = .returned (.bool (canO Ut At l t x == 0)) ∧ ∃ g', St w0 w' s g' (didS l t x) := by
  by_cases hc : canO Ut At l t x = 0
  · have e : (canO Ut At l t x == 0) = true := by rw [beq_iff_eq]; exact hc
    unfold didS
    rw [e, if_pos hc]
    exact h.did_yes h0 t ht0 ht1 x k hk hc
  · have e : (canO Ut At l t x == 0) = false := by rw [beq_eq_false_iff_ne]; exact hc
    unfold didS
    rw [e, if_neg hc]
    exact (h.did_no h0 t ht0 ht1 x k hk hk8 0 (.inr hc)).mono fun _ _ ⟨q, r⟩ => ⟨q, g, r⟩
theorem St2.didS_any (h : St2 w0 w s g l b1 b2 f1 f2) (h0 : T0 w0) (t : Int) (ht0 : 0 ≤ t) (ht1 : t < 64) (x : OpR) (k : Nat) (hk : x.k = k) (hk8 : k < 256) :
    Calls Tryd.prog 9 #[.pointer (some ⟨s, 0, none⟩), .int .i64 t, x.V, .int .i64 0] w fun e w' => e = .returned (.bool (canO Ut At l t x == 0)) ∧ ∃ g', St2 w0 w' s g' (didS l t x) b1 b2 f1 f2 := by
  by_cases hc : canO Ut At l t x = 0
  · have e : (canO Ut At l t x == 0) = true := by rw [beq_iff_eq]; exact hc
    unfold didS
    rw [e, if_pos hc]
    refine (YtajcijocjbakbaaDoor.did_yes Ut At s g l t ht0 ht1 x k hk (can_lt hk hc) hc w (h.st.tabs h0) (h.st.big h0) tabsOk asksOk h.st.bk).mono ?_
    rintro e w' ⟨he, g', hb, hg, hf⟩
    refine ⟨he, g', ⟨hb, h.st.frm.trans hf (fun j hj hS => ?_), h.st.low, fun b e => ?_⟩, h.v1.frm hf (fun hS => ?_), h.v2.frm hf (fun hS => ?_), h.s1, h.s2, fun e => ?_, fun e => ?_⟩
    · rcases hS with rfl | hS
      · have := h.st.low; omega
      · have := h.st.lowg j hS; omega
    · rcases hg with rfl | ⟨-, q, h1, h2⟩
      · exact h.st.lowg b e
      · rw [h1] at e
        injection e with e
        subst e
        exact Nat.le_trans h.st.frm.size h2
    · exact hS.elim (fun e => h.s1 e.symm) h.g1
    · exact hS.elim (fun e => h.s2 e.symm) h.g2
    · rcases hg with rfl | ⟨-, q, h1, h2⟩
      · exact h.g1 e
      · rw [h1] at e
        injection e with e
        have := h.v1.lt
        omega
    · rcases hg with rfl | ⟨-, q, h1, h2⟩
      · exact h.g2 e
      · rw [h1] at e
        injection e with e
        have := h.v2.lt
        omega
  · have e : (canO Ut At l t x == 0) = false := by rw [beq_eq_false_iff_ne]; exact hc
    unfold didS
    rw [e, if_neg hc]
    refine (YtajcijocjbakbaaDoor.did_no Ut At s g l t ht0 ht1 x k hk hk8 0 (.inr hc) w (h.st.tabs h0) (h.st.big h0) tabsOk h.st.bk).mono ?_
    rintro e w' ⟨he, hf⟩
    exact ⟨he, g, h.new_ hf⟩
theorem St2.can (h : St2 w0 w s g l b1 b2 f1 f2) (h0 : T0 w0) (t : Int) (ht0 : 0 ≤ t) (ht1 : t < 64) (x : OpR) (k : Nat) (hk : x.k = k) (hk8 : k < 256) :
    Calls Tryd.prog 8 #[.pointer (some ⟨s, 0, none⟩), .int .i64 t, x.V] w fun e w' => e = .returned (.int .i64 (canO Ut At l t x)) ∧ St2 w0 w' s g l b1 b2 f1 f2 :=
  (can_any Ut At s g l t ht0 ht1 x k hk hk8 w (h.st.tabs h0) (h.st.big h0) tabsOk h.st.bk).mono fun _ _ ⟨e, hf⟩ => ⟨e, h.new_ hf⟩
end
end Go.Proofs.YtajcijocjbakbaaDoor
