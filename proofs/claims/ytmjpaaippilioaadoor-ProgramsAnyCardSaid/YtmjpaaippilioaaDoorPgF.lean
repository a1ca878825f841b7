import Derived.Test.YtmjpaaippilioaaDoorPgE
import Derived.WalkKit
namespace Go.Proofs.YtmjpaaippilioaaDoor
open Go.RowKit Go.MapKept

/-- How many entries are to come. -/
def leftN (w : World) (r : Nat) : Nat :=
  match w.heap[r]? with
  | some (.mapIter (some b) _ seen _) => match w.heap[b]? with
    | some (.map es _) => (es.toList.filter fun e => !seen.contains e.born).length
    | _ => 0
  | _ => 0
theorem MpR.left {κ : Type} {w : World} {kv : κ → Value} {g : Option Nat} {r : Nat} {l rest : List (κ × Value)} (h : MpR w kv g r l rest) : leftN w r = rest.length := by
  rcases h with ⟨h1, h2, h3, a, s, c, hb⟩ | ⟨b, es, clock, since, seen, c0, h1, h2, hb, h3, h4, hi, h5, h6, h7, h8, h9⟩
  · unfold leftN
    rw [hb, h3]
    rfl
  · unfold leftN
    rw [hi]
    simp only [hb]
    have := congrArg List.length h9
    simpa using this
/-! ### a map by what is held, and in which way -/
abbrev th2V (k : Th) : Value := .agg #[.int .u32 k.1, .int .u8 k.2]
theorem eq77 (a b a' b' : Int) (w : World) : (Op.equal 126 (th2V (a, b)) (th2V (a', b'))).run Tryd.prog w = .ok (a == a' && b == b') w := by
  unfold Op.equal
  rw [show Op.maxDepth = 9999 + 1 from rfl, run_equalIn_agg _ 9999 126 _ _ (by kernel_rfl) (by kernel_rfl)]
  simp [Program.fieldsOf, Tryd.underlying126, Op.eqFields, go_sem]
  go_simp
  by_cases h : a = a' <;> by_cases h2 : b = b' <;> simp [h, h2]
theorem check77 (w : World) (em : Bool) (k : Th) : (Instr.checkKey em 10000 126 (th2V k)).run Tryd.prog w = .ok () w := by
  kernel_rfl
theorem find77 (w : World) (k : Th) : ∀ (es : List MapEntry) (l : List Th) (i : Nat), es.map (·.key) = l.map th2V →
    ((Instr.findAsking 126 (th2V k) es i).run Tryd.prog w = .ok none w ∧ k ∉ l) ∨ ∃ j e, (Instr.findAsking 126 (th2V k) es i).run Tryd.prog w = .ok (some (i + j, e.val)) w ∧ es[j]? = some e ∧ l[j]? = some k
  | [], [], i, _ => .inl ⟨rfl, by simp⟩
  | [], _ :: _, i, h => by cases h
  | _ :: _, [], i, h => by cases h
  | e :: es, a :: l, i, h => by
    injection h with h1 h2
    have h1 : e.key = th2V a := h1
    have he : (Op.equal 126 (th2V k) e.key).run Tryd.prog w = .ok (k.1 == a.1 && k.2 == a.2) w := by rw [h1]; exact eq77 k.1 k.2 a.1 a.2 w
    by_cases hk : k = a
    · subst hk
      refine .inr ⟨0, e, ?_, rfl, rfl⟩
      unfold Instr.findAsking
      simp only [Sem.run_bind, he, Result.andThen_ok]
      simp
    · have hb : (k.1 == a.1 && k.2 == a.2) = false := by
        cases hx : (k.1 == a.1 && k.2 == a.2) with
        | false => rfl
        | true =>
          simp at hx
          exact absurd (Prod.ext hx.1 hx.2) hk
      rw [hb] at he
      have hrun : (Instr.findAsking 126 (th2V k) (e :: es) i).run Tryd.prog w = (Instr.findAsking 126 (th2V k) es (i + 1)).run Tryd.prog w := by
        conv => lhs; unfold Instr.findAsking
        simp only [Sem.run_bind, he, Result.andThen_ok]
        simp
      rw [hrun]
      rcases find77 w k es l (i + 1) h2 with ⟨q1, q2⟩ | ⟨j, x, q1, q2, q3⟩
      · exact .inl ⟨q1, by simp [hk, q2]⟩
      · exact .inr ⟨j + 1, x, by rw [q1, show i + 1 + j = i + (j + 1) by omega], q2, q3⟩
/-- Keys that are things. -/
theorem thL2 : KeyL Tryd.prog 126 th2V where
  check := check77
  find := fun w k es l h => by
    rw [run_findKey_eq w (by kernel_rfl)]
    rcases find77 w k es l 0 h with h | ⟨j, e, h1, h2, h3⟩
    · exact .inl h
    · exact .inr ⟨j, e, by rw [h1, Nat.zero_add], h2, h3⟩
  bits := fun k => by simp [Instr.sameBits]
/-- What is held: the map's keys; each element is 1. -/
abbrev oneV (l : List Th) : List (Th × Value) := l.map fun k => (k, .int .i64 1)
def great (l : List Th) : Int := l.foldr (fun k a => max a k.1) 0
theorem great_perm {l l' : List Th} (h : l.Perm l') : great l = great l' := by
  unfold great
  exact h.foldr_eq' (fun x _ y _ z => by omega) 0
theorem great_ge (l : List Th) : ∀ k ∈ l, k.1 ≤ great l := by
  unfold great
  induction l with
  | nil => intro k h; cases h
  | cons a r ih =>
    intro k h
    rw [List.foldr_cons]
    rcases List.mem_cons.1 h with rfl | h
    · omega
    · have := ih k h; omega
theorem great_snoc (l : List Th) (k : Th) : great (l ++ [k]) = max (great l) k.1 := by
  have := great_perm (List.perm_append_comm (l₁ := l) (l₂ := [k]))
  rw [this]
  unfold great
  rw [List.singleton_append, List.foldr_cons]
theorem oneV_fst (l : List Th) : (oneV l).map (·.1) = l := by
  rw [List.map_map]
  conv => rhs; rw [← List.map_id l]
  rfl
theorem oneV_inj : ∀ {l l' : List Th}, oneV l = oneV l' → l = l'
  | [], [], _ => rfl
  | [], _ :: _, h => by cases h
  | _ :: _, [], h => by cases h
  | a :: l, b :: l', h => by
    injection h with h1 h2
    injection h1 with h1 _
    rw [h1, oneV_inj h2]
theorem oneV_perm {r' : List (Th × Value)} {x : Th × Value} {l : List Th} (h : (oneV l).Perm (x :: r')) : ∃ l', r' = oneV l' ∧ x = (x.1, .int .i64 1) ∧ l.Perm (x.1 :: l') := by
  have h1 : ∀ y ∈ x :: r', y = (y.1, .int .i64 1) := fun y hy => by
    obtain ⟨k, _, rfl⟩ := List.mem_map.1 (h.mem_iff.2 hy)
    rfl
  refine ⟨r'.map (·.1), ?_, h1 x List.mem_cons_self, ?_⟩
  · show r' = (r'.map (·.1)).map fun k => (k, Value.int .i64 1)
    rw [List.map_map]
    conv => lhs; rw [← List.map_id r']
    exact List.map_congr_left fun y hy => h1 y (List.mem_cons_of_mem _ hy)
  · have := h.map (·.1)
    rw [oneV_fst] at this
    simpa using this
set_option maxRecDepth 100000 in
set_option maxHeartbeats 4000000 in
theorem greatest_any (b : Nat) (l : List Th) (hb : ∀ k ∈ l, 0 ≤ k.1 ∧ k.1 ≤ 131072) (w : World) (h : MpS w th2V b (oneV l)) :
    Calls Tryd.prog 83 #[.map (some b)] w fun e w' => e = .returned (.int .u32 (great l)) ∧ Frm w w' fun _ => False := by
  have ht : Tryd.prog.underlying 93 = some (.map 126 3) := by kernel_rfl
  obtain ⟨w1, hrun, hR, hs1, hf1⟩ := MpR.start (P := Tryd.prog) (K := 126) (kv := th2V) (w := w) (g := some b) (l := oneV l) ht (fun e => by cases e) (fun q e => by injection e with e; subst e; exact h)
  have hbw := h.lt
  obtain ⟨r, hr⟩ : ∃ r, w.heap.size = r := ⟨_, rfl⟩
  have HWR := Lib.hid hr
  have HBR := Lib.hid (show b < r by omega)
  rw [hr] at hrun hR hs1
  have HB := Lib.hid hb
  clear h hr hb hbw hs1
  go_enter Tryd.func83, Tryd.ntmps83
  go_wp2_with fail
  go_loopw [2] (fun a wr => ∃ rest done : List Th, a = .int .u32 (great done) ∧ MpR wr th2V (some b) r (oneV l) (oneV rest) ∧ l.Perm (done ++ rest) ∧ Frm w wr fun _ => False) (fun _ wr => leftN wr r)
  case atStart => exact ⟨l, [], rfl, hR, List.Perm.refl _, hf1⟩
  case round =>
    clear hR hf1
    obtain ⟨rest, done, rfl, hR, hperm, hF⟩ := hrel
    have hgb : 0 ≤ great done ∧ great done ≤ 131072 := by
      have h1 : ∀ k ∈ done, 0 ≤ k.1 ∧ k.1 ≤ 131072 := fun k hk => HB.out k (hperm.mem_iff.2 (List.mem_append_left _ hk))
      clear hR hperm
      unfold great
      induction done with
      | nil => exact ⟨Int.le_refl _, by decide⟩
      | cons a q ih =>
        have := h1 a List.mem_cons_self
        have := ih fun k hk => h1 k (List.mem_cons_of_mem _ hk)
        rw [List.foldr_cons]
        omega
    obtain ⟨g0, g1⟩ := hgb
    rcases hR.next (P := Tryd.prog) 0 with ⟨h0, hnx⟩ | ⟨x, rest', w2, hp, hnx, hR2, hf2, hs2, hen⟩
    · have h0 : rest = [] := List.map_eq_nil_iff.1 h0
      subst h0
      rw [List.append_nil] at hperm
      have hg := great_perm hperm
      have F := Lib.hid hF
      have HG := Lib.hid hg
      clear hF hR hg hperm
      go_wp2_with fail
      go_ret
      exact ⟨by rw [HG.out]; rfl, F.out⟩
    · obtain ⟨rest2, rfl, hx, hp2⟩ := oneV_perm hp
      obtain ⟨⟨t, y⟩, v⟩ := x
      injection hx with _ hv
      subst hv
      have hp2 : rest.Perm ((t, y) :: rest2) := hp2
      have hnx : (Instr.next (.pointer (some ⟨r, 0, none⟩)) false 0).run Tryd.prog wr = .ok (.tuple #[.bool true, .agg #[.int .u32 t, .int .u8 y], .int .i64 1]) w2 := hnx
      have hen : (Instr.entry (.pointer (some ⟨r, 0, none⟩))).run Tryd.prog w2 = .ok (.tuple #[.agg #[.int .u32 t, .int .u8 y], .int .i64 1]) w2 := hen
      have F := Lib.hid (hF.fresh hf2 fun j (hj : j = r) => by have := HWR.out; omega)
      have hperm2 : l.Perm ((done ++ [(t, y)]) ++ rest2) := hperm.trans (by rw [List.append_assoc]; exact hp2.append_left done)
      have hml : leftN w2 r < leftN wr r := by rw [hR2.left, hR.left, hp.length_eq]; simp
      have hsn := great_snoc done (t, y)
      obtain ⟨t0, t1⟩ : 0 ≤ t ∧ t ≤ 131072 := HB.out (t, y) (hperm.mem_iff.2 (List.mem_append_right _ (hp2.mem_iff.2 List.mem_cons_self)))
      have HP2 := Lib.hid hperm2
      have R2 := Lib.hid hR2
      have HML := Lib.hid hml
      have HSN := Lib.hid hsn
      have HLF := Lib.hid hR2.left
      obtain ⟨gd, hgd⟩ : ∃ g, great done = g := ⟨_, rfl⟩
      rw [hgd] at HSN g0 g1 ⊢
      clear hF hR hR2 hperm hp hp2 hperm2 hml hsn hf2 hs2 hgd
      go_wp2_with fail
      go_roundw
      case rel =>
        refine ⟨rest2, done ++ [(t, y)], ?_, ?_, HP2.out, ?_⟩
        · rw [HSN.out]
          congr 1
          split <;> omega
        · refine R2.out.frm (S := fun _ => False) ?_ id fun _ _ => id
          repeat (first | exact Frm.refl _ _ | with_reducible refine Frm.drew ?_ | with_reducible refine Frm.alloc ?_ _ | with_reducible refine Frm.setCell ?_ (fun h => absurd h (Nat.lt_irrefl _)) _)
        · refine F.out.then_ ?_
          repeat (first | exact Frm.refl _ _ | with_reducible refine Frm.drew ?_ | with_reducible refine Frm.alloc ?_ _ | with_reducible refine Frm.setCell ?_ (fun h => absurd h (Nat.lt_irrefl _)) _)
      case measure =>
        have h3 : leftN (w2.alloc (.cells #[.int .u32 t, .int .u8 y] 126)) r = leftN w2 r := by
          rw [R2.out.left]
          exact MpR.left (R2.out.frm ((Frm.refl _ (fun _ => False)).alloc _) id fun _ _ => id)
        rw [h3]
        exact HML.out
end Go.Proofs.YtmjpaaippilioaaDoor
