import Derived.Test.YtmjpaaippilioaaDoorGrw
import Derived.RangeFuncNested
import Derived.RangeFuncBound
import Derived.RangeFuncCalls
import Derived.RangeFuncLeaves
import Derived.Shelf.Abstract
import Derived.Shelf.RegionOpen
import Derived.WalkKit
import Derived.OwnWalkIn
import Derived.TacticsInMore
import Derived.LoopNIn
import Derived.LoopIn
import Derived.Deep.RegionHeld
import Derived.OrdersIn
namespace Go.Proofs.YtmjpaaippilioaaDoor
open Go.RowKit

/-! ### a range over a function, in frames -/
theorem putObj_frm (w : World) (l : Nat) (o : Obj) : Frm w (w.putObj l o) (fun j => j = l) :=
  ⟨rfl, rfl, rfl, by simp, fun _ _ hn => World.putObj_heap_other hn⟩
section
variable {P : Program} {α : Type}
/-- What a round of the loop leaves to the iterator: it goes on, or says 'no more'. -/
def YieldPost (J Jx : Nat → World → Prop) (T : Nat → Prop) (k : Nat) (W : World) (e : Ending) (W' : World) : Prop :=
  (e = .returned (.bool true) ∧ J (k + 1) W' ∧ Frm W W' T) ∨ (e = .returned (.bool false) ∧ Jx (k + 1) W')
/-- The contract of an iterator that gives xs, one by one. own: the blocks that it writes (they lay ahead of the loop); T: the blocks of those days that the loop's body writes. -/
def SeqC (P : Program) (gf : Nat) (lb : Array Value) (encs : α → Array Value) (xs : List α) (own T : Nat → Prop) (w : World) : Prop :=
  ∀ (l : Nat) (J Jx : Nat → World → Prop) (W : World), Frm w W (fun _ => False) → w.heap.size + 2 ≤ W.heap.size →
    (∀ k A B, J k A → Frm A B own → J k B) → (∀ k A B, Jx k A → Frm A B own → Jx k B) →
    (∀ (k : Nat) (hk : k < xs.length) (W1 : World), J k W1 → W.heap.size ≤ W1.heap.size →
      YieldAt .wide 0 P l (encs xs[k]) W1 (YieldPost J Jx (fun j => T j ∨ w.heap.size ≤ j) k W1)) →
    J 0 W → CallsIn .wide 0 P gf (#[.func (.yield l) #[] #[]] ++ lb) W fun e W' => (∃ v, e = .returned v) ∧ (J xs.length W' ∨ ∃ k, k ≤ xs.length ∧ Jx k W')
/-- How the body of a round may be left. -/
def roundEnd (I : Nat → World → Prop) (Ix : Code → Nat → World → Prop) (T : Nat → Prop) (k : Nat) (W : World) : Exit → Act → World → Prop
  | .normal, _, W' => Frm W W' T ∧ I (k + 1) W'
  | .ret, _, W' => Frm W W' T ∧ Ix .ret (k + 1) W'
  | .exit id, _, W' => Frm W W' T ∧ Ix (.exit id) (k + 1) W'
  | .goto t, _, W' => Frm W W' T ∧ Ix (.goto t) (k + 1) W'
  | .panic _, _, _ => False
  | .outgrown, _, _ => False
theorem wpIn_range {g : Operand} {ps : Array Tmp} {assign body : Code} {Q : Exit → Act → World → Prop} {a : Act} {w : World}
    {gf : Nat} {lb : Array Value} (hg : a.eval g = .func (.func gf) #[] lb) (eg : ∀ args w, (callFunc gf args).run P w = .ok (.enter gf args) w)
    {encs : α → Array Value} {xs : List α} {own T : Nat → Prop} (hseq : SeqC P gf lb encs xs own T w) (hown : ∀ j, own j → j < w.heap.size) (hT : ∀ j, T j → j < w.heap.size) (hps : ∀ x, (encs x).size = ps.size)
    (I : Nat → World → Prop) (Ix : Code → Nat → World → Prop)
    (hI : ∀ k A B, I k A → Frm A B (fun j => own j ∨ j = w.heap.size + 1) → I k B) (hIx : ∀ c k A B, Ix c k A → Frm A B (fun j => own j ∨ j = w.heap.size + 1) → Ix c k B) (h0 : I 0 w)
    (hround : ∀ (k : Nat) (hk : k < xs.length) (W : World), I k W → w.heap.size + 2 ≤ W.heap.size →
      assign.wpIn (Fence.wide.inRound (w.heap.size + 1)) 0 P (Exit.then (fun a₁ W₁ => Frm W W₁ (fun j => T j ∨ w.heap.size + 2 ≤ j) ∧ ∀ W₂, Frm W₁ W₂ (fun j => j = w.heap.size + 1) →
        body.wpIn (Fence.wide.inRound (w.heap.size + 1)) 0 P (roundEnd I Ix (fun j => T j ∨ w.heap.size + 2 ≤ j) k W₂) a₁ W₂) (fun _ _ _ => False))
        { tmps := (ps.zip (encs xs[k])).foldl (fun t (p, v) => t.setIfInBounds p v) a.tmps, defers := [] } W)
    (hdone : ∀ W, I xs.length W → W.heap[w.heap.size]? = some (.deferred (some [])) → Q .normal { a with defers := { target := .collected w.heap.size, args := #[] } :: a.defers } W)
    (hstop : ∀ c k W, k ≤ xs.length → Ix c k W → W.heap[w.heap.size]? = some (.deferred (some [])) → c.wpIn .wide 0 P Q { a with defers := { target := .collected w.heap.size, args := #[] } :: a.defers } W) :
    (Code.rangeFunc g ps assign body).wpIn .wide 0 P Q a w := by
  refine wpIn_rangeFunc ?_
  intro fn hfn
  obtain ⟨rec, hrec⟩ : ∃ rec : LoopState → Option Code → Loop, rec = fun st pe => { state := st, pending := pe, fn, tmps := a.tmps, params := ps, assign, body, defers := w.heap.size } := ⟨_, rfl⟩
  obtain ⟨W1, hW1⟩ : ∃ W1, (w.alloc (.deferred (some []))).alloc (.loop (rec .ready none)) = W1 := ⟨_, rfl⟩
  have hL1 : W1.heap[w.heap.size + 1]? = some (.loop (rec .ready none)) := by
    rw [← hW1]; have := World.alloc_heap_new (w.alloc (.deferred (some []))) (.loop (rec .ready none)); rwa [World.size_alloc] at this
  have hK1 : W1.heap[w.heap.size]? = some (.deferred (some [])) := by
    rw [← hW1]; exact (Below.heap_alloc _ _ _ (by simp)).trans (World.alloc_heap_new w _)
  have hF1 : Frm w W1 (fun _ => False) := by rw [← hW1]; exact ((Frm.refl _ _).alloc _).alloc _
  have hs1 : W1.heap.size = w.heap.size + 2 := by rw [← hW1]; simp
  refine ⟨w.heap.size + 1, [{ target := .collected w.heap.size, args := #[] }], W1, { target := .fn (.func gf) lb, args := #[.func (.yield (w.heap.size + 1)) #[] #[]] }, W1, gf,
    #[.func (.yield (w.heap.size + 1)) #[] #[]] ++ lb, W1, ?_, ?_, ?_, ?_, fun h => by simp [Fence.wide] at h, ?_⟩
  · rw [← hW1, hrec]; exact run_enterLoop_outer _ _ _ _ _
  · simp only [resolve, hg]
    simp [go_sem]
  · intro f' _; trivial
  · simp [invoke, go_sem, eg]
  · refine (hseq (w.heap.size + 1)
      (fun k W => I k W ∧ W.heap[w.heap.size + 1]? = some (.loop (rec .ready none)) ∧ W.heap[w.heap.size]? = some (.deferred (some [])))
      (fun k W => ∃ c, Ix c k W ∧ W.heap[w.heap.size + 1]? = some (.loop (rec .done (some c))) ∧ W.heap[w.heap.size]? = some (.deferred (some [])))
      W1 hF1 (by omega) ?_ ?_ ?_ ⟨hI 0 w W1 h0 (hF1.none_ _), hL1, hK1⟩).mono ?_
    · rintro k A B ⟨h1, h2, h3⟩ hf
      exact ⟨hI k A B h1 (hf.mono fun _ _ h => .inl h), (hf.block _ (Array.getElem?_eq_some_iff.1 h2).1 (fun h => by have := hown _ h; omega)).trans h2, (hf.block _ (Array.getElem?_eq_some_iff.1 h3).1 (fun h => by have := hown _ h; omega)).trans h3⟩
    · rintro k A B ⟨c, h1, h2, h3⟩ hf
      exact ⟨c, hIx c k A B h1 (hf.mono fun _ _ h => .inl h), (hf.block _ (Array.getElem?_eq_some_iff.1 h2).1 (fun h => by have := hown _ h; omega)).trans h2, (hf.block _ (Array.getElem?_eq_some_iff.1 h3).1 (fun h => by have := hown _ h; omega)).trans h3⟩
    · rintro k hk W ⟨hi, hl, hd⟩ hsz
      have hy := run_yield (P := P) (args := encs xs[k]) hl (by rw [hrec]; exact hps _)
      rw [hrec] at hy
      refine ⟨fn, _, assign, body, hy, roundIn_of_wpIn hfn ?_⟩
      refine wpIn_mono (hround k hk W hi (by omega)) ?_
      rintro e a₁ W₁ hp
      cases e with
      | normal =>
        obtain ⟨hf1, hb⟩ := hp
        have hl1 : W₁.heap[w.heap.size + 1]? = some (.loop (rec .ready none)) := (hf1.block _ (Array.getElem?_eq_some_iff.1 hl).1 (fun h => h.elim (fun h => by have := hT _ h; omega) (fun h => by omega))).trans hl
        have hd1 : W₁.heap[w.heap.size]? = some (.deferred (some [])) := (hf1.block _ (Array.getElem?_eq_some_iff.1 hd).1 (fun h => h.elim (fun h => by have := hT _ h; omega) (fun h => by omega))).trans hd
        have hlt : w.heap.size + 1 < W₁.heap.size := (Array.getElem?_eq_some_iff.1 hl1).1
        refine ⟨_, run_beginRound hl1 (by rw [hrec]), ?_⟩
        obtain ⟨W₂, hW2⟩ : ∃ W₂, W₁.putObj (w.heap.size + 1) (.loop { rec .ready none with state := .busy }) = W₂ := ⟨_, rfl⟩
        rw [hW2]
        have hf2 : Frm W₁ W₂ (fun j => j = w.heap.size + 1) := by rw [← hW2]; exact putObj_frm _ _ _
        have hl2 : W₂.heap[w.heap.size + 1]? = some (.loop { rec .ready none with state := .busy }) := by rw [← hW2]; exact World.putObj_heap_same hlt
        have hd2 : W₂.heap[w.heap.size]? = some (.deferred (some [])) := (hf2.block _ (Array.getElem?_eq_some_iff.1 hd1).1 (by omega)).trans hd1
        refine wpIn_mono (hb W₂ hf2) ?_
        have fin : ∀ (jump : Option Code) (W3 : World), Frm W₂ W3 (fun j => T j ∨ w.heap.size + 2 ≤ j) → ∃ W4, (Instr.endRound (w.heap.size + 1) jump).run P W3 = .ok (.bool jump.isNone) W4 ∧
            Frm W3 W4 (fun j => j = w.heap.size + 1) ∧ W4.heap[w.heap.size + 1]? = some (.loop (rec (if jump.isNone then .ready else .done) jump)) ∧ W4.heap[w.heap.size]? = some (.deferred (some [])) := fun jump W3 hf3 => by
          have hl3 : W3.heap[w.heap.size + 1]? = some (.loop { rec .ready none with state := .busy }) := (hf3.block _ (Array.getElem?_eq_some_iff.1 hl2).1 (fun h => h.elim (fun h => by have := hT _ h; omega) (fun h => by omega))).trans hl2
          have hd3 : W3.heap[w.heap.size]? = some (.deferred (some [])) := (hf3.block _ (Array.getElem?_eq_some_iff.1 hd2).1 (fun h => h.elim (fun h => by have := hT _ h; omega) (fun h => by omega))).trans hd2
          have h := run_endRound (P := P) jump hl3
          rw [hrec] at h ⊢
          exact ⟨_, h, putObj_frm _ _ _, World.putObj_heap_same (Array.getElem?_eq_some_iff.1 hl3).1, (World.putObj_heap_other (by omega)).trans hd3⟩
        have frame : ∀ W3 W4, Frm W₂ W3 (fun j => T j ∨ w.heap.size + 2 ≤ j) → Frm W3 W4 (fun j => j = w.heap.size + 1) → Frm W W4 (fun j => T j ∨ w.heap.size ≤ j) := fun W3 W4 hf3 hf4 => by
          have h1 : Frm W W₁ (fun j => T j ∨ w.heap.size ≤ j) := hf1.mono fun j _ h => h.imp id (fun h => by omega)
          have h2 : Frm W₁ W₂ (fun j => T j ∨ w.heap.size ≤ j) := hf2.mono fun j _ h => .inr (by omega)
          have h3 : Frm W₂ W3 (fun j => T j ∨ w.heap.size ≤ j) := hf3.mono fun j _ h => h.imp id (fun h => by omega)
          have h4 : Frm W3 W4 (fun j => T j ∨ w.heap.size ≤ j) := hf4.mono fun j _ h => .inr (by omega)
          exact ((h1.then_ h2).then_ h3).then_ h4
        rintro e a3 W3 hp
        cases e with
        | normal =>
          obtain ⟨hf3, hi3⟩ := hp
          obtain ⟨W4, hr, hf4, hl4, hd4⟩ := fin none W3 hf3
          exact ⟨_, _, hr, .inl ⟨rfl, ⟨hI _ _ _ hi3 (hf4.mono fun _ _ h => .inr h), hl4, hd4⟩, frame W3 W4 hf3 hf4⟩⟩
        | ret =>
          obtain ⟨hf3, hi3⟩ := hp
          obtain ⟨W4, hr, hf4, hl4, hd4⟩ := fin (some .ret) W3 hf3
          exact ⟨_, _, hr, .inr ⟨rfl, .ret, hIx _ _ _ _ hi3 (hf4.mono fun _ _ h => .inr h), hl4, hd4⟩⟩
        | exit id =>
          obtain ⟨hf3, hi3⟩ := hp
          obtain ⟨W4, hr, hf4, hl4, hd4⟩ := fin (some (.exit id)) W3 hf3
          exact ⟨_, _, hr, .inr ⟨rfl, .exit id, hIx _ _ _ _ hi3 (hf4.mono fun _ _ h => .inr h), hl4, hd4⟩⟩
        | goto t =>
          obtain ⟨hf3, hi3⟩ := hp
          obtain ⟨W4, hr, hf4, hl4, hd4⟩ := fin (some (.goto t)) W3 hf3
          exact ⟨_, _, hr, .inr ⟨rfl, .goto t, hIx _ _ _ _ hi3 (hf4.mono fun _ _ h => .inr h), hl4, hd4⟩⟩
        | panic ch => exact hp.elim
        | outgrown => exact hp.elim
      | ret => exact hp.elim
      | exit id => exact hp.elim
      | goto t => exact hp.elim
      | panic ch => exact hp.elim
      | outgrown => exact hp.elim
    · rintro e W2 ⟨⟨v, rfl⟩, (⟨hi, hl, hd⟩ | ⟨k, hk, c, hi, hl, hd⟩)⟩
      · refine ⟨none, _, by have := run_endLoop (P := P) hl (by rw [hrec]; simp); rw [hrec] at this; exact this, hdone _ (hI _ _ _ hi ((putObj_frm _ _ _).mono fun _ _ h => .inr h)) ((World.putObj_heap_other (by omega)).trans hd)⟩
      · refine ⟨some c, _, by have := run_endLoop (P := P) hl (by rw [hrec]; simp); rw [hrec] at this; exact this, hstop c k _ hk (hIx _ _ _ _ hi ((putObj_frm _ _ _).mono fun _ _ h => .inr h)) ((World.putObj_heap_other (by omega)).trans hd)⟩
/-- An append onto a slice of the call's own, in a round. -/
theorem wpListIn_append_sl {F : Fence} {nf : Nat} (w : World) {ops : Array Oper} {rest : List Oper} {o : Oper} {a : Act} {Q : Exit → Act → World → Prop} (hgd : o.guard = none) (s x : Operand) (t : TypeId)
    (ho : o.op = .call { callee := .builtin .append, args := #[s, x], argTypes := #[t, t] })
    (B : Nat) (e : TypeId) (i : TypeInfo) (z : Value) (size bytes : Nat) (ht : P.underlying t = some (.slice e)) (hi : P.info? e = some i) (hz : i.zero = some z)
    (hsize : i.size = size) (hby : i.bytes = bytes) (hzs : z.cells.size = size) (hsz : 0 < size)
    (A : Option Addr) (n cap : Nat) (xs : List Value) (hs : a.eval s = .slice A n cap) (h : Sl w B size A n cap xs)
    (X : Option Addr) (m c : Nat) (news : List Value) (hx : a.eval x = .slice X m c) (hr : Rd w w.heap.size size X m news) (h1 : ∀ u ∈ news, u.oneCell' = true)
    (h63 : n + m ≤ maxLen) (hbytes : (n + m) * bytes ≤ 140737488355328) (hB : B ≤ w.heap.size)
    (hK : ∀ A' cap' w', Appended w w' B size A A' (n + m) cap' (xs ++ news) → wpListIn F nf P ops Q rest (a.put o.dst (.slice A' (n + m) cap')) w') : wpListIn F nf P ops Q (o :: rest) a w := by
  refine wpListIn_plain hgd fun K hK' => ?_
  obtain ⟨A', cap', w', hrun, h2⟩ := run_append_sl (P := P) w B t o.type e i z size bytes ht hi hz hsize hby hzs hsz A n cap xs h X m c news hr h1 h63 hbytes hB
  unfold Oper.wpIn
  refine ⟨?_, ?_⟩
  · simp [Oper.about, ho, resolve, Target.leads, Sem.run_pure]
  · rw [Oper.semAt_plain F _ _ (by rw [ho]; intro c hc'; cases hc')]
    simp [execOp, ho, resolve, invoke, builtin, hs, hx, hrun, Result.andThen]
    exact hK' _ _ (hK A' cap' w' h2)
end
end Go.Proofs.YtmjpaaippilioaaDoor
namespace Go.Proofs.YtmjpaaippilioaaDoor
open Go.RowKit

/-! ### a region that draws, in a round -/
section
variable {P : Program} {ops : Array Oper} {Q : Exit → Act → World → Prop} {md : Region.Mode}
def noDefer (ops : Array Oper) : Bool := ops.all fun o => match o.op with | .defer _ => false | _ => true
theorem noDefer_at {i : Nat} {o : Oper} (h : noDefer ops = true) (hi : ops[i]? = some o) : ∀ c, o.op ≠ .defer c := by
  intro c hc
  have h1 := Array.all_eq_true.1 h i (Array.getElem?_eq_some_iff.1 hi).1
  rw [(Array.getElem?_eq_some_iff.1 hi).2, hc] at h1
  cases h1
theorem rows_round {l n : Nat} {row : String} {args : Array Value} {w : World} {R : Value → World → Prop} (h : Rows P row args w R) : RowsIn (Fence.wide.inRound l) n P row args w R := by
  intro c cs _
  obtain ⟨v, w', r, s⟩ := h c cs
  exact ⟨v, w', r, stepsIn_wide.2 s⟩
theorem wpIn_of_wp {l n : Nat} {o : Oper} {a : Act} {w : World} {K K' : Act → World → Prop} (hd : ∀ c, o.op ≠ .defer c) (_hQ : ¬ LetsOut Q) (hK : ∀ a w, K a w → K' a w) (h : o.wp P a w K Q) : o.wpIn (Fence.wide.inRound l) n P a w K' Q := by
  refine ⟨fun _ _ => trivial, ?_⟩
  rw [Oper.semAt_plain _ _ _ hd]
  unfold Oper.wp at h
  generalize (execOp a.eval o).run P w = r at *
  cases r with
  | ok x w' =>
    cases x <;> simp only [Oper.upon] at h <;> simp only [Oper.uponIn]
    case value v => exact hK _ _ h
    case skip => exact hK _ _ h
    case defer d => exact hK _ _ h
    case enter f args =>
      refine ⟨(fun h => by cases h), CallsIn.inRound l (callsIn_wide.2 (h.mono fun e w'' he => ?_))⟩
      cases e with
      | returned v => exact hK _ _ he
      | panicked c => exact he
      | outgrown => exact he
    case row row args => exact ⟨(fun h => by cases h), rows_round (Rows.mono h fun _ _ he => hK _ _ he)⟩
  | halt x w' => cases x <;> simp only [Oper.upon] at h <;> simp only [Oper.uponIn] <;> exact h
theorem wpAnyIn_of_wpAny {l n : Nat} (hd : noDefer ops = true) (hQ : ¬ LetsOut Q) : ∀ (fuel : Nat) (listed : Array Bool) (a : Act) (w : World), wpAny P md ops Q fuel listed a w → wpAnyIn (Fence.wide.inRound l) n P md ops Q fuel listed a w
  | 0, _, _, _, h => h
  | fuel + 1, _, _, _, h => ⟨h.1, fun i hi => by
      have h1 := h.2 i hi
      unfold wpOp at h1
      unfold wpOpIn
      cases ho : ops[i]? with
      | none => simp only [ho] at h1; exact wpAnyIn_of_wpAny hd hQ fuel _ _ _ h1
      | some o =>
        simp only [ho] at h1
        dsimp only
        split
        · rename_i hw
          rw [if_pos hw] at h1
          rcases h1 with h1 | ⟨_, h1⟩
          · exact wpIn_of_wp (noDefer_at hd ho) hQ (fun a w h => wpAnyIn_of_wpAny hd hQ fuel _ _ _ h) h1
          · exact (hQ h1).elim
        · rename_i hw
          rw [if_neg hw] at h1
          exact ⟨fun _ _ => trivial, wpAnyIn_of_wpAny hd hQ fuel _ _ _ h1⟩⟩
/-- A region that draws, in a round: one condition S on the worlds. -/
theorem wpIn_region_round {l n id : Nat} {S : World → Prop} {a : Act} {w : World} (hd : noDefer ops = true) (hQ : ∀ a w, ¬ Q .outgrown a w) (hm : P.follows .mixedOrders = true) (hS : S w.drew)
    (h : S w.drew → wpAnyH P .any ops Q S ops.size (Array.replicate ops.size false) a w.drew) : (Code.region id ops true).wpIn (Fence.wide.inRound l) n P Q a w :=
  wpIn_region_any hm (wpAnyIn_of_wpAny hd (fun ⟨a, w, h⟩ => hQ a w h) _ _ _ _ (wpAny_of_held _ _ _ _ (h hS)))
end
end Go.Proofs.YtmjpaaippilioaaDoor
