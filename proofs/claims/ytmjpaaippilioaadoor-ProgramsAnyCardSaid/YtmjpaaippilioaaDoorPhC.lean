import Derived.Test.YtmjpaaippilioaaDoorPhB
namespace Go.Proofs.YtmjpaaippilioaaDoor
open Go.RowKit

/-- A box that holds an operation. -/
def Bx7 (w : World) (b : Nat) (o : OpR) : Prop := ∀ j v, o.cs[j]? = some v → w.cell? ⟨b, j, none⟩ = some v
theorem bx_new (w : World) (t : TypeId) (o : OpR) : Bx7 (w.alloc (.cells ⟨o.cs⟩ t)) w.heap.size o := fun j v hv => by
  rw [World.cell?_alloc_new]
  simpa using hv
theorem Bx7.frm {w w' : World} {b : Nat} {o : OpR} {S : Nat → Prop} (h : Bx7 w b o) (hf : Frm w w' S) (hb : ¬ S b) : Bx7 w' b o := fun j v hv => hf.cell (h j v hv) hb
theorem Bx7.kind {w : World} {b : Nat} {o : OpR} (h : Bx7 w b o) (v : Int) : Bx7 (w.setCell ⟨b, 0, none⟩ (.int .u8 v)) b ⟨v, o.a, o.o, o.t, o.fl, o.fa, o.g⟩ := fun j u hu => by
  match j, hu with
  | 0, hu => injection hu with hu; subst hu; exact World.cell?_setCell_same _ _ _ (h 0 _ rfl)
  | j + 1, hu =>
    rw [World.cell?_setCell_other _ _ _ _ (by simp)]
    exact h (j + 1) u hu
theorem backO_le (k : Nat) : backO k ≤ 11 := by
  unfold backO
  split
  · decide
  · split
    · decide
    · split <;> decide
theorem flat_take {α : Type} (c : α → List Value) (m : Nat) (hc : ∀ x, (c x).length = m) : ∀ (xs : List α) (k : Nat), (xs.flatMap c).take (k * m) = (xs.take k).flatMap c
  | [], k => by simp
  | x :: r, 0 => by simp
  | x :: r, k + 1 => by
    rw [List.flatMap_cons, List.take_succ_cons, List.flatMap_cons, ← flat_take c m hc r k, List.take_append, hc, List.take_of_length_le (by rw [hc, Nat.add_mul]; omega)]
    congr 2
    rw [Nat.add_mul]; omega
theorem opsV_snoc (l : List OpR) (o : OpR) : opsV (l ++ [o]) = opsV l ++ o.cs := by simp [opsV, List.flatMap_append]
theorem cells_set {w : World} {b : Nat} (k : Nat) (u : Value) {l : List Value} (h : ∀ j v, l[j]? = some v → w.cell? ⟨b, j, none⟩ = some v) (hk : k < l.length) : ∀ j v, (l.set k u)[j]? = some v → (w.setCell ⟨b, k, none⟩ u).cell? ⟨b, j, none⟩ = some v := by
  intro j v hv
  by_cases hj : k = j
  · subst hj
    rw [List.getElem?_set_self hk] at hv
    injection hv with hv
    subst hv
    exact World.cell?_setCell_same _ _ _ (h k _ (List.getElem?_eq_getElem hk))
  · rw [List.getElem?_set_ne hj] at hv
    rw [World.cell?_setCell_other _ _ _ _ (by simp)]
    exact h j v hv
theorem bx_put {w : World} {b : Nat} {o0 : OpR} (o : OpR) (h : Bx7 w b o0) : Bx7 (((((((w.setCell ⟨b, 0, none⟩ (.int .u8 o.k)).setCell ⟨b, 1, none⟩ (.int .i64 o.a)).setCell ⟨b, 2, none⟩ (.int .i64 o.o)).setCell ⟨b, 3, none⟩ (.int .i64 o.t)).setCell ⟨b, 4, none⟩ (.bool o.fl)).setCell ⟨b, 5, none⟩ (.bool o.fa)).setCell ⟨b, 6, none⟩ (.int .i64 o.g)) b o := by
  have h0 := cells_set 0 (.int .u8 o.k) h (by rw [OpR.cs_len]; decide)
  have h1 := cells_set 1 (.int .i64 o.a) h0 (by simp only [List.length_set, OpR.cs_len]; decide)
  have h2 := cells_set 2 (.int .i64 o.o) h1 (by simp only [List.length_set, OpR.cs_len]; decide)
  have h3 := cells_set 3 (.int .i64 o.t) h2 (by simp only [List.length_set, OpR.cs_len]; decide)
  have h4 := cells_set 4 (.bool o.fl) h3 (by simp only [List.length_set, OpR.cs_len]; decide)
  have h5 := cells_set 5 (.bool o.fa) h4 (by simp only [List.length_set, OpR.cs_len]; decide)
  have h6 := cells_set 6 (.int .i64 o.g) h5 (by simp only [List.length_set, OpR.cs_len]; decide)
  exact h6
theorem bx_fz (w : World) (t t2 : TypeId) (arr c : Array Value) (j : Nat) : ((w.alloc (.cells c t)).alloc (.cells arr t2)).frozen? ⟨w.heap.size, j, none⟩ = false :=
  (((Frm.refl _ fun _ => False).alloc _).frozen (p := ⟨w.heap.size, j, none⟩) (by simp) id).trans (World.frozen?_alloc_new _ _ _ _)
theorem bx_at (w : World) (t t2 : TypeId) (arr : Array Value) (o : OpR) (j : Nat) (v : Value) (h : o.cs[j]? = some v) : ((w.alloc (.cells ⟨o.cs⟩ t)).alloc (.cells arr t2)).cell? ⟨w.heap.size, j, none⟩ = some v :=
  ((Frm.refl _ fun _ => False).alloc _).cell (bx_new w t o j v h) id
theorem parseL_ok (zs : List Nat) : KOk (parseL zs) := fun x hx => by
  unfold parseL at hx
  obtain ⟨k, _, rfl⟩ := List.mem_map.1 hx
  have h : (parsedO (zs.getD (k * 4) 0) (zs.getD (k * 4 + 1) 0) (zs.getD (k * 4 + 2) 0) (zs.getD (k * 4 + 3) 0)).k = ((zs.getD (k * 4) 0 % 26 : Nat) : Int) := rfl
  rw [h]; omega
theorem parse4 (x : Nat) (hx : x ≤ 255) (V : World) (h : T2 V) (g c : Nat) (hr : Rd V V.heap.size 1 (some ⟨g, 0, none⟩) 4 [.int .u8 (x : Int), .int .u8 ((x : Int) / 2), .int .u8 (x : Int), .int .u8 (x : Int)]) (hc : c = 4) :
    Calls Tryd.prog 39 #[.slice (some ⟨g, 0, none⟩) 4 c] V fun e w' => ∃ A o, e = .returned (.slice A 1 1) ∧ Sl w' V.heap.size 7 A 1 1 o.cs ∧ KOk [o] ∧ Frm V w' fun _ => False := by
  subst hc
  have hr' : Rd V V.heap.size 1 (some ⟨g, 0, none⟩) 4 (bz [x, x / 2, x, x]) := hr
  have := parse_any g 0 4 4 [x, x / 2, x, x] V h.t1 hr' (fun z hz => by simp at hz; omega) (by decide) (Nat.le_refl _) (by unfold maxLen; omega)
  refine this.mono ?_
  rintro e w' ⟨A, rfl, hS, hf⟩
  have hq : parseL [x, x / 2, x, x] = [parsedO x (x / 2) x x] := by simp [parseL]
  refine ⟨A, parsedO x (x / 2) x x, ?_, ?_, hq ▸ parseL_ok [x, x / 2, x, x], hf⟩
  · show Ending.returned (Value.slice A (4 / 4) (4 / 4)) = _
    rfl
  have e1 : opsV (parseL [x, x / 2, x, x]) = (parsedO x (x / 2) x x).cs := by rw [hq]; exact List.append_nil _
  rw [e1, show [x, x / 2, x, x].length / 4 = 1 by simp] at hS
  exact hS
theorem one_cells {w : World} {B : Nat} {A : Option Addr} {o : OpR} (h : Sl w B 7 A 1 1 o.cs) : ∃ g off, A = some ⟨g, off, none⟩ ∧ w.cell? ⟨g, off, none⟩ = some (.int .u8 o.k) ∧ w.cell? ⟨g, off + 1, none⟩ = some (.int .i64 o.a) ∧ w.cell? ⟨g, off + 2, none⟩ = some (.int .i64 o.o) ∧ w.cell? ⟨g, off + 3, none⟩ = some (.int .i64 o.t)
    ∧ w.cell? ⟨g, off + 4, none⟩ = some (.bool o.fl) ∧ w.cell? ⟨g, off + 5, none⟩ = some (.bool o.fa) ∧ w.cell? ⟨g, off + 6, none⟩ = some (.int .i64 o.g) := by
  obtain ⟨g, off, rfl, _, _, hc, _⟩ := h.form (by decide)
  exact ⟨g, off, rfl, hc 0 _ rfl, hc 1 _ rfl, hc 2 _ rfl, hc 3 _ rfl, hc 4 _ rfl, hc 5 _ rfl, hc 6 _ rfl⟩
/-- What the switch leaves: slot 4, the box, the world. -/
def SwR (w wr : World) (Ah : Option Addr) (j : Nat) (s4 : Value) (wx : World) : Prop :=
  ∃ (A2 : Option Addr) (n2 c2 : Nat) (l2 : List OpR) (o : OpR), s4 = .slice A2 n2 c2 ∧ n2 ≤ j + 1 ∧ Sl wx w.heap.size 7 A2 n2 c2 (opsV l2) ∧ KOk l2 ∧ Bx7 wx wr.heap.size o ∧ 0 ≤ o.k ∧ o.k ≤ 255 ∧ (∀ q, blk A2 q → blk Ah q ∨ wr.heap.size ≤ q) ∧ Frm wr wx (blk Ah)
section
variable {w wr W1 w3 : World} {Ah A' : Option Addr} {j nh ch cap' : Nat} {hs : List OpR}
theorem SwR.same (h : Sl wr w.heap.size 7 Ah nh ch (opsV hs)) (hk : KOk hs) (hn : nh ≤ j) (o : OpR) (k0 : 0 ≤ o.k) (k1 : o.k ≤ 255) : SwR w wr Ah j (.slice Ah nh ch) (wr.alloc (.cells ⟨o.cs⟩ 50)) :=
  ⟨Ah, nh, ch, hs, o, rfl, by omega, h.alloc _, hk, bx_new _ _ _, k0, k1, fun _ h => .inl h, ((Frm.refl _ fun _ => False).alloc _).none_ _⟩
theorem SwR.of {wx : World} (h : Sl wr w.heap.size 7 Ah nh ch (opsV hs)) (hk : KOk hs) (hn : nh ≤ j) (o : OpR) (k0 : 0 ≤ o.k) (k1 : o.k ≤ 255) (hF : Frm wr wx fun _ => False) (hb : Bx7 wx wr.heap.size o) : SwR w wr Ah j (.slice Ah nh ch) wx :=
  ⟨Ah, nh, ch, hs, o, rfl, by omega, h.new_ hF, hk, hb, k0, k1, fun _ h => .inl h, hF.none_ _⟩
theorem SwR.put {w5 : World} (h : Sl wr w.heap.size 7 Ah nh ch (opsV hs)) (hk : KOk hs) (hn : nh ≤ j) {o0 : OpR} (o : OpR) (k0 : 0 ≤ o.k) (k1 : o.k ≤ 255) (hF : Frm wr w5 fun _ => False) (hb : Bx7 w5 wr.heap.size o0) : SwR w wr Ah j (.slice Ah nh ch) (((((((w5.setCell ⟨wr.heap.size, 0, none⟩ (.int .u8 o.k)).setCell ⟨wr.heap.size, 1, none⟩ (.int .i64 o.a)).setCell ⟨wr.heap.size, 2, none⟩ (.int .i64 o.o)).setCell ⟨wr.heap.size, 3, none⟩ (.int .i64 o.t)).setCell ⟨wr.heap.size, 4, none⟩ (.bool o.fl)).setCell ⟨wr.heap.size, 5, none⟩ (.bool o.fa)).setCell ⟨wr.heap.size, 6, none⟩ (.int .i64 o.g)) := by
  have h0 := hF.setCell (p := ⟨wr.heap.size, 0, none⟩) (fun h => absurd h (Nat.lt_irrefl _)) (.int .u8 o.k)
  have h1 := h0.setCell (p := ⟨wr.heap.size, 1, none⟩) (fun h => absurd h (Nat.lt_irrefl _)) (.int .i64 o.a)
  have h2 := h1.setCell (p := ⟨wr.heap.size, 2, none⟩) (fun h => absurd h (Nat.lt_irrefl _)) (.int .i64 o.o)
  have h3 := h2.setCell (p := ⟨wr.heap.size, 3, none⟩) (fun h => absurd h (Nat.lt_irrefl _)) (.int .i64 o.t)
  have h4 := h3.setCell (p := ⟨wr.heap.size, 4, none⟩) (fun h => absurd h (Nat.lt_irrefl _)) (.bool o.fl)
  have h5 := h4.setCell (p := ⟨wr.heap.size, 5, none⟩) (fun h => absurd h (Nat.lt_irrefl _)) (.bool o.fa)
  have h6 := h5.setCell (p := ⟨wr.heap.size, 6, none⟩) (fun h => absurd h (Nat.lt_irrefl _)) (.int .i64 o.g)
  exact SwR.of h hk hn o k0 k1 h6 (bx_put o hb)
theorem SwR.push (o : OpR) (arr : Obj) (hn : nh ≤ j) (hk : KOk hs) (k0 : 0 ≤ o.k) (k1 : o.k ≤ 255) (hnb : ¬ blk Ah wr.heap.size)
    (hap : Appended ((wr.alloc (.cells ⟨o.cs⟩ 50)).alloc arr) w3 w.heap.size 7 Ah A' (nh + 1) cap' (opsV hs ++ o.cs)) : SwR w wr Ah j (.slice A' (nh + 1) cap') w3 := by
  obtain ⟨h1, h2, h3⟩ := hap
  have hF : Frm wr ((wr.alloc (.cells ⟨o.cs⟩ 50)).alloc arr) fun _ => False := ((Frm.refl _ _).alloc _).alloc _
  refine ⟨A', nh + 1, cap', hs ++ [o], o, rfl, by omega, by rw [opsV_snoc]; exact h1, hk.app (KOk.one k0 k1), ((bx_new wr 50 o).frm ((Frm.refl _ fun _ => False).alloc arr) id).frm h2 hnb, k0, k1, fun q hq => ?_, (hF.none_ _).then_ h2⟩
  rcases h3 q hq with h | h
  · exact .inl h
  · exact .inr (Nat.le_trans hF.size h)
theorem SwR.push2 (o : OpR) (arr arr2 : Obj) (hn : nh ≤ j) (hk : KOk hs) (k0 : 0 ≤ o.k) (k1 : o.k ≤ 255) (hnb : ¬ blk Ah wr.heap.size)
    (hap : Appended (((wr.alloc (.cells ⟨o.cs⟩ 50)).alloc arr2).alloc arr) w3 w.heap.size 7 Ah A' (nh + 1) cap' (opsV hs ++ o.cs)) : SwR w wr Ah j (.slice A' (nh + 1) cap') w3 := by
  obtain ⟨h1, h2, h3⟩ := hap
  have hF : Frm wr (((wr.alloc (.cells ⟨o.cs⟩ 50)).alloc arr2).alloc arr) fun _ => False := (((Frm.refl _ _).alloc _).alloc _).alloc _
  refine ⟨A', nh + 1, cap', hs ++ [o], o, rfl, by omega, by rw [opsV_snoc]; exact h1, hk.app (KOk.one k0 k1), ((bx_new wr 50 o).frm (((Frm.refl _ fun _ => False).alloc arr2).alloc arr) id).frm h2 hnb, k0, k1, fun q hq => ?_, (hF.none_ _).then_ h2⟩
  rcases h3 q hq with h | h
  · exact .inl h
  · exact .inr (Nat.le_trans hF.size h)
theorem SwR.turned (o : OpR) (hn : nh ≤ j) (k0 : 0 ≤ o.k) (k1 : o.k ≤ 255) (hnb : ¬ blk Ah wr.heap.size) (hF : Frm wr W1 fun _ => False) (hb : Bx7 W1 wr.heap.size o) (h : ∃ m, Sl w3 w.heap.size 7 Ah nh ch (opsV m) ∧ KOk m) (hf : Frm W1 w3 (blk Ah)) : SwR w wr Ah j (.slice Ah nh ch) w3 := by
  obtain ⟨m, hm, hk⟩ := h
  exact ⟨Ah, nh, ch, m, o, rfl, by omega, hm, hk, hb.frm hf hnb, k0, k1, fun _ h => .inl h, (hF.none_ _).then_ hf⟩
theorem SwR.less (h : Sl wr w.heap.size 7 Ah nh ch (opsV hs)) (hk : KOk hs) (hn : nh ≤ j) (o : OpR) (k0 : 0 ≤ o.k) (k1 : o.k ≤ 255) : SwR w wr Ah j (.slice Ah (nh - 1) ch) (wr.alloc (.cells ⟨o.cs⟩ 50)) := by
  have hs' := h.short (m := nh - 1) (c := ch) (by omega) (by have := h.le; omega) (Nat.le_refl _)
  have e : (opsV hs).take ((nh - 1) * 7) = opsV (hs.take (nh - 1)) := flat_take OpR.cs 7 OpR.cs_len hs (nh - 1)
  rw [e] at hs'
  exact ⟨Ah, nh - 1, ch, hs.take (nh - 1), o, rfl, by omega, hs'.alloc _, hk.take _, bx_new _ _ _, k0, k1, fun _ h => .inl h, ((Frm.refl _ fun _ => False).alloc _).none_ _⟩
end
theorem bz_get (zs : List Nat) (i : Nat) (h : i < zs.length) : (bz zs)[i]? = some (.int .u8 (zs[i] : Int)) := by
  unfold bz
  rw [List.getElem?_map, List.getElem?_eq_getElem h]; rfl
/-- A block of a code. -/
def findBlk (n : Nat) : Code → Option Code
  | .block k c => if k = n then some (.block k c) else findBlk n c
  | .loop c => findBlk n c
  | .scope c => findBlk n c
  | .seq a b => match findBlk n a with
    | some c => some c
    | none => findBlk n b
  | .cond _ a b => match findBlk n a with
    | some c => some c
    | none => findBlk n b
  | _ => none
/-- The switch of Made. -/
noncomputable def sw32 : Code := (Tryd.f32.body.bind (findBlk 2)).getD .skip
end Go.Proofs.YtmjpaaippilioaaDoor
